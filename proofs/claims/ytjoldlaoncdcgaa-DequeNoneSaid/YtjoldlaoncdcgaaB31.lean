/- What may not be done does nothing (DequeNone), as the evaluator answers. -/
import Derived.Test.YtjoldlaoncdcgaaA31
set_option linter.unusedSimpArgs false
set_option linter.unusedVariables false
set_option maxRecDepth 100000
set_option maxHeartbeats 16000000
namespace Go.Proofs.Ytjoldlaoncdcgaa
open Go
abbrev np : LV := .v (.pointer none)
/-- The memory at the beginning. -/
def H0 : List Row := [⟨0, [.i 0, .nils, .i 0, .nils, .i 0, .nils, .i 0, .nils, .i 0, .nils, .i 0, .nils]⟩, ⟨0, []⟩, ⟨0, []⟩, ⟨0, [.sl 5 1 0 2 1 2, .sl 0 0 0 6 2 6, .sl 1 0 0 0 2 0, .sl 2 0 0 0 2 0, .nils, .i 0]⟩, ⟨0, [.i 0, .i 0]⟩, ⟨1, [.sl 4 0 0 2 1 2, .sl 6 0 0 2 1 2]⟩, ⟨0, [.i 0, .i 0]⟩]
theorem e6 (k : Nat) : evF cm (k + 100) 6 [.i 2, .i 6, .i 0, .i 0] [] 0 = some (.tup [.p 3 0 0, .i 0], H0) := by kernel_rfl
theorem e6P (k : Nat) : evP (evF cm (k + 100)) 6 [.i 2, .i 6, .i 0, .i 0] = none := by kernel_rfl
theorem e18n (k : Nat) (x : LV) (t : Int) (h : List Row) (l : Nat) : evF cm (k + 1) 18 [np, x, .i t] h l = some (.tup [.b false, .i 1], h) := by
  rw [evH_fun (m := c18) rfl _ _ _ _ rfl]
  simp -implicitDefEqProofs only [c18, push_cast, Nat.reduceAdd, Nat.reduceMul, Nat.reduceSub, Nat.reduceLT, Nat.reduceLeDiff, Nat.reduceEqDiff, Nat.reducePow, Int.reduceToNat, Int.reduceLT, Int.reduceLE, Int.reduceNeg, Int.reduceEq, Int.reducePow, reduceIte, reduceCtorEq, Int.reduceMul, Int.reduceAdd, Int.reduceSub, Int.reduceMod, Int.reduceDiv, Int.reduceTDiv, Int.reduceTMod, iter_s]
theorem e14n (k : Nat) : evP (evF cm (k + 1)) 14 [np] = some (.tup [.i 0, .b false]) := by kernel_rfl
theorem e15n (k : Nat) : evP (evF cm (k + 1)) 15 [np] = some (.i 0) := by kernel_rfl
theorem e11 (k : Nat) (a c : Int) : evF cm (k + 2) 11 [.agg [.i a, .i c]] [] 0 = some (.p 1 0 0, [⟨0, [.i a, .i c]⟩, ⟨0, [.i a, .i c, .f 21 [], .i 0, .b true, .i 0, .i 0, .i 0]⟩]) := by
  rw [evH_fun (m := c11) rfl _ _ _ _ rfl]
  simp -implicitDefEqProofs only [c11, push_cast, Nat.reduceAdd, Nat.reduceMul, Nat.reduceSub, Nat.reduceLT, Nat.reduceLeDiff, Nat.reduceEqDiff, Nat.reducePow, Int.reduceToNat, Int.reduceLT, Int.reduceLE, Int.reduceNeg, Int.reduceEq, Int.reducePow, reduceIte, reduceCtorEq, Int.reduceMul, Int.reduceAdd, Int.reduceSub, Int.reduceMod, Int.reduceDiv, Int.reduceTDiv, Int.reduceTMod, iter_s]
theorem e11P (k : Nat) (a c : Int) : evP (evF cm (k + 2)) 11 [.agg [.i a, .i c]] = none := by
  rw [P_eq, e11]
  rfl
/-- A deque's operation behind the memory. -/
def H1 (a c : Int) : List Row := ⟨0, [.i a, .i c]⟩ :: shR 1 H0 ++ [⟨0, [.i a, .i c]⟩, ⟨0, [.i a, .i c, .f 21 [], .i 0, .b true, .i 0, .i 0, .i 0]⟩]
theorem e37b (k : Nat) (t a : Int) (h : List Row) (hr : rowOf h 4 0 = some [.sl 6 1 0 2 1 2, .sl 1 0 0 6 2 6, .sl 2 0 0 0 2 0, .sl 3 0 0 0 2 0, .nils, .i 0]) (hno : ¬ (0 ≤ a ∧ a < 6 ∧ 0 ≤ t ∧ t < 2)) : evF cm (k + 1) 37 [.p 4 0 0, .i t, .i a, .i 6] h 0 = some (.i 2, h) := by
  rw [evH_fun (m := c37) rfl _ _ _ _ rfl]
  by_cases h1 : t < 0
  · simp -implicitDefEqProofs only [c37, hr, h1, push_cast, Nat.reduceAdd, Nat.reduceMul, Nat.reduceSub, Nat.reduceLT, Nat.reduceLeDiff, Nat.reduceEqDiff, Nat.reducePow, Int.reduceToNat, Int.reduceLT, Int.reduceLE, Int.reduceNeg, Int.reduceEq, Int.reducePow, reduceIte, reduceCtorEq, Int.reduceMul, Int.reduceAdd, Int.reduceSub, Int.reduceMod, Int.reduceDiv, Int.reduceTDiv, Int.reduceTMod, iter_s]
  · by_cases h2 : (2 : Int) ≤ t
    · simp -implicitDefEqProofs only [c37, hr, h1, h2, push_cast, Nat.reduceAdd, Nat.reduceMul, Nat.reduceSub, Nat.reduceLT, Nat.reduceLeDiff, Nat.reduceEqDiff, Nat.reducePow, Int.reduceToNat, Int.reduceLT, Int.reduceLE, Int.reduceNeg, Int.reduceEq, Int.reducePow, reduceIte, reduceCtorEq, Int.reduceMul, Int.reduceAdd, Int.reduceSub, Int.reduceMod, Int.reduceDiv, Int.reduceTDiv, Int.reduceTMod, iter_s]
    · by_cases h3 : a < 0
      · simp -implicitDefEqProofs only [c37, hr, h1, h2, h3, push_cast, Nat.reduceAdd, Nat.reduceMul, Nat.reduceSub, Nat.reduceLT, Nat.reduceLeDiff, Nat.reduceEqDiff, Nat.reducePow, Int.reduceToNat, Int.reduceLT, Int.reduceLE, Int.reduceNeg, Int.reduceEq, Int.reducePow, reduceIte, reduceCtorEq, Int.reduceMul, Int.reduceAdd, Int.reduceSub, Int.reduceMod, Int.reduceDiv, Int.reduceTDiv, Int.reduceTMod, iter_s]
      · have h4 : (6 : Int) ≤ a := by omega
        simp -implicitDefEqProofs only [c37, hr, h1, h2, h3, h4, push_cast, Nat.reduceAdd, Nat.reduceMul, Nat.reduceSub, Nat.reduceLT, Nat.reduceLeDiff, Nat.reduceEqDiff, Nat.reducePow, Int.reduceToNat, Int.reduceLT, Int.reduceLE, Int.reduceNeg, Int.reduceEq, Int.reducePow, reduceIte, reduceCtorEq, Int.reduceMul, Int.reduceAdd, Int.reduceSub, Int.reduceMod, Int.reduceDiv, Int.reduceTDiv, Int.reduceTMod, iter_s]
theorem e38 (k : Nat) (h : List Row) (hr : rowOf h 4 0 = some [.sl 6 1 0 2 1 2, .sl 1 0 0 6 2 6, .sl 2 0 0 0 2 0, .sl 3 0 0 0 2 0, .nils, .i 0]) (l : Nat) : evF cm (k + 2) 38 [.p 4 0 0, .f 39 []] h l = some (.i 6, h) := by
  have e39 : ∀ k, evF cm (k + 1) 39 [.p 4 0 0] h l = some (.sl 1 0 0 6 2 6, h) := by
    intro k
    rw [evH_fun (m := c39) rfl _ _ _ _ rfl]
    simp -implicitDefEqProofs only [c39, hr, push_cast, Nat.reduceAdd, Nat.reduceMul, Nat.reduceSub, Nat.reduceLT, Nat.reduceLeDiff, Nat.reduceEqDiff, Nat.reducePow, Int.reduceToNat, Int.reduceLT, Int.reduceLE, Int.reduceNeg, Int.reduceEq, Int.reducePow, reduceIte, reduceCtorEq, Int.reduceMul, Int.reduceAdd, Int.reduceSub, Int.reduceMod, Int.reduceDiv, Int.reduceTDiv, Int.reduceTMod, iter_s]
  rw [evH_fun (m := c38) rfl _ _ _ _ rfl]
  simp -implicitDefEqProofs only [c38, call_S, frz, frzL, e39, push_cast, Nat.reduceAdd, Nat.reduceMul, Nat.reduceSub, Nat.reduceLT, Nat.reduceLeDiff, Nat.reduceEqDiff, Nat.reducePow, Int.reduceToNat, Int.reduceLT, Int.reduceLE, Int.reduceNeg, Int.reduceEq, Int.reducePow, reduceIte, reduceCtorEq, Int.reduceMul, Int.reduceAdd, Int.reduceSub, Int.reduceMod, Int.reduceDiv, Int.reduceTDiv, Int.reduceTMod, iter_s]
theorem e31b (k : Nat) (t a : Int) (h : List Row) (hr : rowOf h 4 0 = some [.sl 6 1 0 2 1 2, .sl 1 0 0 6 2 6, .sl 2 0 0 0 2 0, .sl 3 0 0 0 2 0, .nils, .i 0]) (hno : ¬ (0 ≤ a ∧ a < 6 ∧ 0 ≤ t ∧ t < 2)) : evF cm (k + 3) 31 [.p 4 0 0, .i t, .i a] h 0 = some (.tup [.i 0, .i 2], h) := by
  rw [evH_fun (m := c31) rfl _ _ _ _ rfl]
  simp -implicitDefEqProofs only [c31, call_S, e38 _ h hr, e37b _ t a h hr hno, push_cast, Nat.reduceAdd, Nat.reduceMul, Nat.reduceSub, Nat.reduceLT, Nat.reduceLeDiff, Nat.reduceEqDiff, Nat.reducePow, Int.reduceToNat, Int.reduceLT, Int.reduceLE, Int.reduceNeg, Int.reduceEq, Int.reducePow, reduceIte, reduceCtorEq, Int.reduceMul, Int.reduceAdd, Int.reduceSub, Int.reduceMod, Int.reduceDiv, Int.reduceTDiv, Int.reduceTMod, iter_s]
theorem e24b (k : Nat) (t a c : Int) (hno : ¬ (0 ≤ a ∧ a < 6 ∧ 0 ≤ t ∧ t < 2)) : evF cm (k + 4) 24 [.p 9 0 0, .agg [.p 4 0 0, .i t], .i a, .p 9 0 6] (H1 a c ++ [⟨0, [.p 4 0 0, .i t]⟩]) 0 = some (.i 2, H1 a c ++ [⟨0, [.p 4 0 0, .i t]⟩, ⟨0, [.p 4 0 0, .i t]⟩]) := by
  rw [evH_fun (m := c24) rfl _ _ _ _ rfl]
  have h31 := fun k h hr => e31b k t a h hr hno
  simp -implicitDefEqProofs only [c24, H1, H0, shR, shLs, shL, Nat.reduceAdd, call_S, h31, push_cast, Nat.reduceAdd, Nat.reduceMul, Nat.reduceSub, Nat.reduceLT, Nat.reduceLeDiff, Nat.reduceEqDiff, Nat.reducePow, Int.reduceToNat, Int.reduceLT, Int.reduceLE, Int.reduceNeg, Int.reduceEq, Int.reducePow, reduceIte, reduceCtorEq, Int.reduceMul, Int.reduceAdd, Int.reduceSub, Int.reduceMod, Int.reduceDiv, Int.reduceTDiv, Int.reduceTMod, iter_s]
theorem e25b (k : Nat) (x : LV) (g : Nat) (h : List Row) (l : Nat) : evF cm (k + 1) 25 [x, .f g [], .i 2] h l = some (.i 2, h) := by
  rw [evH_fun (m := c25) rfl _ _ _ _ rfl]
  simp -implicitDefEqProofs only [c25, push_cast, Nat.reduceAdd, Nat.reduceMul, Nat.reduceSub, Nat.reduceLT, Nat.reduceLeDiff, Nat.reduceEqDiff, Nat.reducePow, Int.reduceToNat, Int.reduceLT, Int.reduceLE, Int.reduceNeg, Int.reduceEq, Int.reducePow, reduceIte, reduceCtorEq, Int.reduceMul, Int.reduceAdd, Int.reduceSub, Int.reduceMod, Int.reduceDiv, Int.reduceTDiv, Int.reduceTMod, iter_s]
theorem e21b (k : Nat) (t a c : Int) (hb : -100 ≤ a ∧ a ≤ 100) (hno : ¬ (0 ≤ a ∧ a < 6 ∧ 0 ≤ t ∧ t < 2)) : evF cm (k + 5) 21 [.p 9 0 0, .agg [.p 4 0 0, .i t]] (H1 a c) 0 = some (.i 2, H1 a c ++ [⟨0, [.p 4 0 0, .i t]⟩, ⟨0, [.p 4 0 0, .i t]⟩]) := by
  have hw : IntKind.i64.wrap (a + 0) = a := by rw [IntKind.wrap_i64]; omega
  have h24 := fun k => e24b k t a c hno
  simp only [H1, H0, shR, shLs, shL, Nat.reduceAdd, List.cons_append, List.nil_append] at h24
  rw [evH_fun (m := c21) rfl _ _ _ _ rfl]
  simp -implicitDefEqProofs only [c21, H1, H0, shR, shLs, shL, Nat.reduceAdd, call_S, iso_n, frz, frzL, hw, h24, e25b, push_cast, Nat.reduceAdd, Nat.reduceMul, Nat.reduceSub, Nat.reduceLT, Nat.reduceLeDiff, Nat.reduceEqDiff, Nat.reducePow, Int.reduceToNat, Int.reduceLT, Int.reduceLE, Int.reduceNeg, Int.reduceEq, Int.reducePow, reduceIte, reduceCtorEq, Int.reduceMul, Int.reduceAdd, Int.reduceSub, Int.reduceMod, Int.reduceDiv, Int.reduceTDiv, Int.reduceTMod, iter_s]
/-- Behind a step that was not done. -/
def Hb (a c t : Int) : List Row := H1 a c ++ [⟨0, [.p 4 0 0, .i t]⟩, ⟨0, [.p 4 0 0, .i t]⟩]
theorem e18c (k : Nat) (t a c : Int) (hc : c < 1) : evF cm (k + 6) 18 [.p 9 0 0, .p 4 0 0, .i t] (H1 a c) 0 = some (.tup [.b false, .i 2], H1 a c) := by
  rw [evH_fun (m := c18) rfl _ _ _ _ rfl]
  simp -implicitDefEqProofs only [c18, H1, H0, shR, shLs, shL, Nat.reduceAdd, hc, push_cast, Nat.reduceAdd, Nat.reduceMul, Nat.reduceSub, Nat.reduceLT, Nat.reduceLeDiff, Nat.reduceEqDiff, Nat.reducePow, Int.reduceToNat, Int.reduceLT, Int.reduceLE, Int.reduceNeg, Int.reduceEq, Int.reducePow, reduceIte, reduceCtorEq, Int.reduceMul, Int.reduceAdd, Int.reduceSub, Int.reduceMod, Int.reduceDiv, Int.reduceTDiv, Int.reduceTMod, iter_s]
theorem e18b (k : Nat) (t a c : Int) (hb : -100 ≤ a ∧ a ≤ 100) (hc : ¬ c < 1) (hno : ¬ (0 ≤ a ∧ a < 6 ∧ 0 ≤ t ∧ t < 2)) : evF cm (k + 6) 18 [.p 9 0 0, .p 4 0 0, .i t] (H1 a c) 0 = some (.tup [.b false, .i 2], Hb a c t) := by
  have h21 := fun k => e21b k t a c hb hno
  simp only [H1, H0, shR, shLs, shL, Nat.reduceAdd, List.cons_append, List.nil_append] at h21
  rw [evH_fun (m := c18) rfl _ _ _ _ rfl]
  simp -implicitDefEqProofs only [c18, H1, H0, shR, shLs, shL, Nat.reduceAdd, Hb, hc, call_S, h21, push_cast, Nat.reduceAdd, Nat.reduceMul, Nat.reduceSub, Nat.reduceLT, Nat.reduceLeDiff, Nat.reduceEqDiff, Nat.reducePow, Int.reduceToNat, Int.reduceLT, Int.reduceLE, Int.reduceNeg, Int.reduceEq, Int.reducePow, reduceIte, reduceCtorEq, Int.reduceMul, Int.reduceAdd, Int.reduceSub, Int.reduceMod, Int.reduceDiv, Int.reduceTDiv, Int.reduceTMod, iter_s]
/-- A step that was done. -/
def Hg (a c t : Int) : List Row := ((evF cm 100 21 [.p 9 0 0, .agg [.p 4 0 0, .i t]] (H1 a c) 0).getD (.u, [])).2
theorem e21g00 (k : Nat) (c : Int) : evF cm (k + 100) 21 [.p 9 0 0, .agg [.p 4 0 0, .i 0]] (H1 0 c) 0 = some (.i 0, Hg 0 c 0) := by kernel_rfl
theorem r8g00 (c : Int) : rowOf (Hg 0 c 0) 9 0 = some [.i 0, .i c, .f 27 [], .i 0, .b true, .i 0, .i 0, .i 0] := by kernel_rfl
theorem r0g00 (c : Int) : rowOf (Hg 0 c 0) 0 0 = some [.i 0, .i c] := by kernel_rfl
theorem r3g00 (c : Int) : rowOf (Hg 0 c 0) 4 0 = some [.sl 6 1 0 2 1 2, .sl 1 0 0 6 2 6, .sl 2 0 0 0 2 0, .sl 3 0 0 0 2 0, .nils, .i 1] := by kernel_rfl
theorem e21g01 (k : Nat) (c : Int) : evF cm (k + 100) 21 [.p 9 0 0, .agg [.p 4 0 0, .i 1]] (H1 0 c) 0 = some (.i 0, Hg 0 c 1) := by kernel_rfl
theorem r8g01 (c : Int) : rowOf (Hg 0 c 1) 9 0 = some [.i 0, .i c, .f 27 [], .i 0, .b true, .i 0, .i 0, .i 0] := by kernel_rfl
theorem r0g01 (c : Int) : rowOf (Hg 0 c 1) 0 0 = some [.i 0, .i c] := by kernel_rfl
theorem r3g01 (c : Int) : rowOf (Hg 0 c 1) 4 0 = some [.sl 6 1 0 2 1 2, .sl 1 0 0 6 2 6, .sl 2 0 0 0 2 0, .sl 3 0 0 0 2 0, .nils, .i 1] := by kernel_rfl
theorem e21g10 (k : Nat) (c : Int) : evF cm (k + 100) 21 [.p 9 0 0, .agg [.p 4 0 0, .i 0]] (H1 1 c) 0 = some (.i 0, Hg 1 c 0) := by kernel_rfl
theorem r8g10 (c : Int) : rowOf (Hg 1 c 0) 9 0 = some [.i 1, .i c, .f 27 [], .i 0, .b true, .i 0, .i 0, .i 0] := by kernel_rfl
theorem r0g10 (c : Int) : rowOf (Hg 1 c 0) 0 0 = some [.i 1, .i c] := by kernel_rfl
theorem r3g10 (c : Int) : rowOf (Hg 1 c 0) 4 0 = some [.sl 6 1 0 2 1 2, .sl 1 0 0 6 2 6, .sl 2 0 0 0 2 0, .sl 3 0 0 0 2 0, .nils, .i 1] := by kernel_rfl
theorem e21g11 (k : Nat) (c : Int) : evF cm (k + 100) 21 [.p 9 0 0, .agg [.p 4 0 0, .i 1]] (H1 1 c) 0 = some (.i 0, Hg 1 c 1) := by kernel_rfl
theorem r8g11 (c : Int) : rowOf (Hg 1 c 1) 9 0 = some [.i 1, .i c, .f 27 [], .i 0, .b true, .i 0, .i 0, .i 0] := by kernel_rfl
theorem r0g11 (c : Int) : rowOf (Hg 1 c 1) 0 0 = some [.i 1, .i c] := by kernel_rfl
theorem r3g11 (c : Int) : rowOf (Hg 1 c 1) 4 0 = some [.sl 6 1 0 2 1 2, .sl 1 0 0 6 2 6, .sl 2 0 0 0 2 0, .sl 3 0 0 0 2 0, .nils, .i 1] := by kernel_rfl
theorem e21g20 (k : Nat) (c : Int) : evF cm (k + 100) 21 [.p 9 0 0, .agg [.p 4 0 0, .i 0]] (H1 2 c) 0 = some (.i 0, Hg 2 c 0) := by kernel_rfl
theorem r8g20 (c : Int) : rowOf (Hg 2 c 0) 9 0 = some [.i 2, .i c, .f 27 [], .i 0, .b true, .i 0, .i 0, .i 0] := by kernel_rfl
theorem r0g20 (c : Int) : rowOf (Hg 2 c 0) 0 0 = some [.i 2, .i c] := by kernel_rfl
theorem r3g20 (c : Int) : rowOf (Hg 2 c 0) 4 0 = some [.sl 6 1 0 2 1 2, .sl 1 0 0 6 2 6, .sl 2 0 0 0 2 0, .sl 3 0 0 0 2 0, .nils, .i 1] := by kernel_rfl
theorem e21g21 (k : Nat) (c : Int) : evF cm (k + 100) 21 [.p 9 0 0, .agg [.p 4 0 0, .i 1]] (H1 2 c) 0 = some (.i 0, Hg 2 c 1) := by kernel_rfl
theorem r8g21 (c : Int) : rowOf (Hg 2 c 1) 9 0 = some [.i 2, .i c, .f 27 [], .i 0, .b true, .i 0, .i 0, .i 0] := by kernel_rfl
theorem r0g21 (c : Int) : rowOf (Hg 2 c 1) 0 0 = some [.i 2, .i c] := by kernel_rfl
theorem r3g21 (c : Int) : rowOf (Hg 2 c 1) 4 0 = some [.sl 6 1 0 2 1 2, .sl 1 0 0 6 2 6, .sl 2 0 0 0 2 0, .sl 3 0 0 0 2 0, .nils, .i 1] := by kernel_rfl
theorem e21g30 (k : Nat) (c : Int) : evF cm (k + 100) 21 [.p 9 0 0, .agg [.p 4 0 0, .i 0]] (H1 3 c) 0 = some (.i 0, Hg 3 c 0) := by kernel_rfl
theorem r8g30 (c : Int) : rowOf (Hg 3 c 0) 9 0 = some [.i 3, .i c, .f 27 [], .i 0, .b true, .i 0, .i 0, .i 0] := by kernel_rfl
theorem r0g30 (c : Int) : rowOf (Hg 3 c 0) 0 0 = some [.i 3, .i c] := by kernel_rfl
theorem r3g30 (c : Int) : rowOf (Hg 3 c 0) 4 0 = some [.sl 6 1 0 2 1 2, .sl 1 0 0 6 2 6, .sl 2 0 0 0 2 0, .sl 3 0 0 0 2 0, .nils, .i 1] := by kernel_rfl
theorem e21g31 (k : Nat) (c : Int) : evF cm (k + 100) 21 [.p 9 0 0, .agg [.p 4 0 0, .i 1]] (H1 3 c) 0 = some (.i 0, Hg 3 c 1) := by kernel_rfl
theorem r8g31 (c : Int) : rowOf (Hg 3 c 1) 9 0 = some [.i 3, .i c, .f 27 [], .i 0, .b true, .i 0, .i 0, .i 0] := by kernel_rfl
theorem r0g31 (c : Int) : rowOf (Hg 3 c 1) 0 0 = some [.i 3, .i c] := by kernel_rfl
theorem r3g31 (c : Int) : rowOf (Hg 3 c 1) 4 0 = some [.sl 6 1 0 2 1 2, .sl 1 0 0 6 2 6, .sl 2 0 0 0 2 0, .sl 3 0 0 0 2 0, .nils, .i 1] := by kernel_rfl
theorem e21g40 (k : Nat) (c : Int) : evF cm (k + 100) 21 [.p 9 0 0, .agg [.p 4 0 0, .i 0]] (H1 4 c) 0 = some (.i 0, Hg 4 c 0) := by kernel_rfl
theorem r8g40 (c : Int) : rowOf (Hg 4 c 0) 9 0 = some [.i 4, .i c, .f 27 [], .i 0, .b true, .i 0, .i 0, .i 0] := by kernel_rfl
theorem r0g40 (c : Int) : rowOf (Hg 4 c 0) 0 0 = some [.i 4, .i c] := by kernel_rfl
theorem r3g40 (c : Int) : rowOf (Hg 4 c 0) 4 0 = some [.sl 6 1 0 2 1 2, .sl 1 0 0 6 2 6, .sl 2 0 0 0 2 0, .sl 3 0 0 0 2 0, .nils, .i 1] := by kernel_rfl
theorem e21g41 (k : Nat) (c : Int) : evF cm (k + 100) 21 [.p 9 0 0, .agg [.p 4 0 0, .i 1]] (H1 4 c) 0 = some (.i 0, Hg 4 c 1) := by kernel_rfl
theorem r8g41 (c : Int) : rowOf (Hg 4 c 1) 9 0 = some [.i 4, .i c, .f 27 [], .i 0, .b true, .i 0, .i 0, .i 0] := by kernel_rfl
theorem r0g41 (c : Int) : rowOf (Hg 4 c 1) 0 0 = some [.i 4, .i c] := by kernel_rfl
theorem r3g41 (c : Int) : rowOf (Hg 4 c 1) 4 0 = some [.sl 6 1 0 2 1 2, .sl 1 0 0 6 2 6, .sl 2 0 0 0 2 0, .sl 3 0 0 0 2 0, .nils, .i 1] := by kernel_rfl
theorem e21g50 (k : Nat) (c : Int) : evF cm (k + 100) 21 [.p 9 0 0, .agg [.p 4 0 0, .i 0]] (H1 5 c) 0 = some (.i 0, Hg 5 c 0) := by kernel_rfl
theorem r8g50 (c : Int) : rowOf (Hg 5 c 0) 9 0 = some [.i 5, .i c, .f 27 [], .i 0, .b true, .i 0, .i 0, .i 0] := by kernel_rfl
theorem r0g50 (c : Int) : rowOf (Hg 5 c 0) 0 0 = some [.i 5, .i c] := by kernel_rfl
theorem r3g50 (c : Int) : rowOf (Hg 5 c 0) 4 0 = some [.sl 6 1 0 2 1 2, .sl 1 0 0 6 2 6, .sl 2 0 0 0 2 0, .sl 3 0 0 0 2 0, .nils, .i 1] := by kernel_rfl
theorem e21g51 (k : Nat) (c : Int) : evF cm (k + 100) 21 [.p 9 0 0, .agg [.p 4 0 0, .i 1]] (H1 5 c) 0 = some (.i 0, Hg 5 c 1) := by kernel_rfl
theorem r8g51 (c : Int) : rowOf (Hg 5 c 1) 9 0 = some [.i 5, .i c, .f 27 [], .i 0, .b true, .i 0, .i 0, .i 0] := by kernel_rfl
theorem r0g51 (c : Int) : rowOf (Hg 5 c 1) 0 0 = some [.i 5, .i c] := by kernel_rfl
theorem r3g51 (c : Int) : rowOf (Hg 5 c 1) 4 0 = some [.sl 6 1 0 2 1 2, .sl 1 0 0 6 2 6, .sl 2 0 0 0 2 0, .sl 3 0 0 0 2 0, .nils, .i 1] := by kernel_rfl
theorem g21 (k : Nat) (t a c : Int) (hy : 0 ≤ a ∧ a < 6 ∧ 0 ≤ t ∧ t < 2) : evF cm (k + 100) 21 [.p 9 0 0, .agg [.p 4 0 0, .i t]] (H1 a c) 0 = some (.i 0, Hg a c t) ∧ rowOf (Hg a c t) 9 0 = some [.i a, .i c, .f 27 [], .i 0, .b true, .i 0, .i 0, .i 0] ∧ rowOf (Hg a c t) 4 0 = some [.sl 6 1 0 2 1 2, .sl 1 0 0 6 2 6, .sl 2 0 0 0 2 0, .sl 3 0 0 0 2 0, .nils, .i 1] ∧ rowOf (Hg a c t) 0 0 = some [.i a, .i c] := by
  have ha : a = 0 ∨ a = 1 ∨ a = 2 ∨ a = 3 ∨ a = 4 ∨ a = 5 := by omega
  have ht : t = 0 ∨ t = 1 := by omega
  rcases ha with rfl | rfl | rfl | rfl | rfl | rfl <;> rcases ht with rfl | rfl
  · exact ⟨e21g00 k c, r8g00 c, r3g00 c, r0g00 c⟩
  · exact ⟨e21g01 k c, r8g01 c, r3g01 c, r0g01 c⟩
  · exact ⟨e21g10 k c, r8g10 c, r3g10 c, r0g10 c⟩
  · exact ⟨e21g11 k c, r8g11 c, r3g11 c, r0g11 c⟩
  · exact ⟨e21g20 k c, r8g20 c, r3g20 c, r0g20 c⟩
  · exact ⟨e21g21 k c, r8g21 c, r3g21 c, r0g21 c⟩
  · exact ⟨e21g30 k c, r8g30 c, r3g30 c, r0g30 c⟩
  · exact ⟨e21g31 k c, r8g31 c, r3g31 c, r0g31 c⟩
  · exact ⟨e21g40 k c, r8g40 c, r3g40 c, r0g40 c⟩
  · exact ⟨e21g41 k c, r8g41 c, r3g41 c, r0g41 c⟩
  · exact ⟨e21g50 k c, r8g50 c, r3g50 c, r0g50 c⟩
  · exact ⟨e21g51 k c, r8g51 c, r3g51 c, r0g51 c⟩
theorem e18g (k : Nat) (t a c : Int) (hc : ¬ c < 1) (hy : 0 ≤ a ∧ a < 6 ∧ 0 ≤ t ∧ t < 2) : evF cm (k + 101) 18 [.p 9 0 0, .p 4 0 0, .i t] (H1 a c) 0 = some (.tup [.b false, .i 0], Hg a c t) := by
  obtain ⟨h21, h8, h3, _⟩ := g21 k t a c hy
  have h8' : rowOf (H1 a c) 9 0 = some [.i a, .i c, .f 21 [], .i 0, .b true, .i 0, .i 0, .i 0] := rfl
  rw [evH_fun (m := c18) rfl _ _ _ _ rfl]
  simp -implicitDefEqProofs only [c18, h8', hc, call_S, h21, h8, push_cast, Nat.reduceAdd, Nat.reduceMul, Nat.reduceSub, Nat.reduceLT, Nat.reduceLeDiff, Nat.reduceEqDiff, Nat.reducePow, Int.reduceToNat, Int.reduceLT, Int.reduceLE, Int.reduceNeg, Int.reduceEq, Int.reducePow, reduceIte, reduceCtorEq, Int.reduceMul, Int.reduceAdd, Int.reduceSub, Int.reduceMod, Int.reduceDiv, Int.reduceTDiv, Int.reduceTMod, iter_s]
theorem e19 (k : Nat) (n : Int) (h : List Row) (l : Nat) (hr : rowOf h 4 0 = some [.sl 6 1 0 2 1 2, .sl 1 0 0 6 2 6, .sl 2 0 0 0 2 0, .sl 3 0 0 0 2 0, .nils, .i n]) : evF cm (k + 1) 19 [.p 4 0 0] h l = some (.i n, h) := by
  rw [evH_fun (m := c19) rfl _ _ _ _ rfl]
  simp -implicitDefEqProofs only [c19, hr, push_cast, Nat.reduceAdd, Nat.reduceMul, Nat.reduceSub, Nat.reduceLT, Nat.reduceLeDiff, Nat.reduceEqDiff, Nat.reducePow, Int.reduceToNat, Int.reduceLT, Int.reduceLE, Int.reduceNeg, Int.reduceEq, Int.reducePow, reduceIte, reduceCtorEq, Int.reduceMul, Int.reduceAdd, Int.reduceSub, Int.reduceMod, Int.reduceDiv, Int.reduceTDiv, Int.reduceTMod, iter_s]
theorem e15 (k : Nat) (a c : Int) (g : Nat) (h : List Row) (l : Nat) (hr : rowOf h 9 0 = some [.i a, .i c, .f g [], .i 0, .b true, .i 0, .i 0, .i 0]) : evF cm (k + 1) 15 [.p 9 0 0] h l = some (.i 0, h) := by
  rw [evH_fun (m := c15) rfl _ _ _ _ rfl]
  simp -implicitDefEqProofs only [c15, hr, push_cast, Nat.reduceAdd, Nat.reduceMul, Nat.reduceSub, Nat.reduceLT, Nat.reduceLeDiff, Nat.reduceEqDiff, Nat.reducePow, Int.reduceToNat, Int.reduceLT, Int.reduceLE, Int.reduceNeg, Int.reduceEq, Int.reducePow, reduceIte, reduceCtorEq, Int.reduceMul, Int.reduceAdd, Int.reduceSub, Int.reduceMod, Int.reduceDiv, Int.reduceTDiv, Int.reduceTMod, iter_s]
theorem e7 (k : Nat) : evP (evF cm (k + 10)) 7 [.i 6] = some (.i 8) := by kernel_rfl
theorem e5 (k : Nat) (a c t : Int) : evP (evF cm (k + 300)) 5 [.agg [.i a, .i c], .i t] = some (.b true) := by
  rw [evP_fun (m := c5) rfl _ _ rfl]
  have h18 := fun k x t h l => e18n k x t h l
  by_cases h1 : a < -100
  · simp -implicitDefEqProofs only [c5, e6, e6P, H0, h1, e8, push_cast, Nat.reduceAdd, Nat.reduceMul, Nat.reduceSub, Nat.reduceLT, Nat.reduceLeDiff, Nat.reduceEqDiff, Nat.reducePow, Int.reduceToNat, Int.reduceLT, Int.reduceLE, Int.reduceNeg, Int.reduceEq, Int.reducePow, reduceIte, reduceCtorEq, Int.reduceMul, Int.reduceAdd, Int.reduceSub, Int.reduceMod, Int.reduceDiv, Int.reduceTDiv, Int.reduceTMod, iter_s]
  · by_cases h2 : 100 < a
    · simp -implicitDefEqProofs only [c5, e6, e6P, H0, h1, h2, e8, push_cast, Nat.reduceAdd, Nat.reduceMul, Nat.reduceSub, Nat.reduceLT, Nat.reduceLeDiff, Nat.reduceEqDiff, Nat.reducePow, Int.reduceToNat, Int.reduceLT, Int.reduceLE, Int.reduceNeg, Int.reduceEq, Int.reducePow, reduceIte, reduceCtorEq, Int.reduceMul, Int.reduceAdd, Int.reduceSub, Int.reduceMod, Int.reduceDiv, Int.reduceTDiv, Int.reduceTMod, iter_s]
    · by_cases hc : c < 1
      · have h18c := fun k => e18c k t a c hc
        have h19 := fun k h l hr => e19 k 0 h l hr
        have h15 := fun k h l hr => e15 k a c 21 h l hr
        simp only [H1, H0, shR, shLs, shL, Nat.reduceAdd, List.cons_append, List.nil_append] at h18c
        by_cases f1 : 0 ≤ a <;> by_cases f2 : a < 6 <;> by_cases f3 : 0 ≤ t <;> by_cases f4 : t < 2 <;>
          simp -implicitDefEqProofs only [c5, e6, e6P, H0, h1, h2, hc, e8, call_S, e18n, e14n, e15n, e11, e11P, h18c, h19, h15, f1, f2, f3, f4, push_cast, Nat.reduceAdd, Nat.reduceMul, Nat.reduceSub, Nat.reduceLT, Nat.reduceLeDiff, Nat.reduceEqDiff, Nat.reducePow, Int.reduceToNat, Int.reduceLT, Int.reduceLE, Int.reduceNeg, Int.reduceEq, Int.reducePow, reduceIte, reduceCtorEq, Int.reduceMul, Int.reduceAdd, Int.reduceSub, Int.reduceMod, Int.reduceDiv, Int.reduceTDiv, Int.reduceTMod, iter_s]
      · by_cases hy : 0 ≤ a ∧ a < 6 ∧ 0 ≤ t ∧ t < 2
        · have h18g := fun k => e18g k t a c hc hy
          obtain ⟨f1, f2, f3, f4⟩ := hy
          obtain ⟨_, hr8, hr3, hr0⟩ := g21 0 t a c ⟨f1, f2, f3, f4⟩
          have h19 := fun k l => e19 k 1 (Hg a c t) l hr3
          simp only [H1, H0, shR, shLs, shL, Nat.reduceAdd, List.cons_append, List.nil_append] at h18g
          simp -implicitDefEqProofs only [c5, e6, e6P, H0, h1, h2, hc, e8, call_S, e18n, e14n, e15n, e11, e11P, h18g, h19, hr0, e15 _ a c 27 _ _ hr8, f1, f2, f3, f4, push_cast, Nat.reduceAdd, Nat.reduceMul, Nat.reduceSub, Nat.reduceLT, Nat.reduceLeDiff, Nat.reduceEqDiff, Nat.reducePow, Int.reduceToNat, Int.reduceLT, Int.reduceLE, Int.reduceNeg, Int.reduceEq, Int.reducePow, reduceIte, reduceCtorEq, Int.reduceMul, Int.reduceAdd, Int.reduceSub, Int.reduceMod, Int.reduceDiv, Int.reduceTDiv, Int.reduceTMod, iter_s]
        · have h18b := fun k => e18b k t a c (by omega) hc hy
          have h19 := fun k h l hr => e19 k 0 h l hr
          have h15 := fun k h l hr => e15 k a c 21 h l hr
          simp only [H1, Hb, H0, shR, shLs, shL, Nat.reduceAdd, List.cons_append, List.nil_append] at h18b
          by_cases f1 : 0 ≤ a <;> by_cases f2 : a < 6 <;> by_cases f3 : 0 ≤ t <;> by_cases f4 : t < 2 <;> first
            | (exfalso; omega)
            | simp -implicitDefEqProofs only [c5, e6, e6P, H0, h1, h2, hc, e8, call_S, e18n, e14n, e15n, e11, e11P, h18b, h19, h15, f1, f2, f3, f4, push_cast, Nat.reduceAdd, Nat.reduceMul, Nat.reduceSub, Nat.reduceLT, Nat.reduceLeDiff, Nat.reduceEqDiff, Nat.reducePow, Int.reduceToNat, Int.reduceLT, Int.reduceLE, Int.reduceNeg, Int.reduceEq, Int.reducePow, reduceIte, reduceCtorEq, Int.reduceMul, Int.reduceAdd, Int.reduceSub, Int.reduceMod, Int.reduceDiv, Int.reduceTDiv, Int.reduceTMod, iter_s]
end Go.Proofs.Ytjoldlaoncdcgaa
