/- Counts that are run as threads (SchedRuns), as the evaluator answers. -/
import Derived.Test.YtbmfmcimcdajcaaN34
set_option linter.unusedSimpArgs false
set_option linter.unusedVariables false
set_option maxRecDepth 100000
set_option maxHeartbeats 16000000
namespace Go.Proofs.Ytbmfmcimcdajcaa
open Go
theorem tl71 {T : List LV} (h : T.length = 71) : T = [getT T 0, getT T 1, getT T 2, getT T 3, getT T 4, getT T 5, getT T 6, getT T 7, getT T 8, getT T 9, getT T 10, getT T 11, getT T 12, getT T 13, getT T 14, getT T 15, getT T 16, getT T 17, getT T 18, getT T 19, getT T 20, getT T 21, getT T 22, getT T 23, getT T 24, getT T 25, getT T 26, getT T 27, getT T 28, getT T 29, getT T 30, getT T 31, getT T 32, getT T 33, getT T 34, getT T 35, getT T 36, getT T 37, getT T 38, getT T 39, getT T 40, getT T 41, getT T 42, getT T 43, getT T 44, getT T 45, getT T 46, getT T 47, getT T 48, getT T 49, getT T 50, getT T 51, getT T 52, getT T 53, getT T 54, getT T 55, getT T 56, getT T 57, getT T 58, getT T 59, getT T 60, getT T 61, getT T 62, getT T 63, getT T 64, getT T 65, getT T 66, getT T 67, getT T 68, getT T 69, getT T 70] := tlT h
mutual
theorem frz_closed (h : List Row) : ∀ r : LV, closed r = true → frz h r = r
  | .v x, _ => rfl
  | .p _ _ _, _ => rfl
  | .f _ _, _ => rfl
  | .im _ _ _, _ => rfl
  | .pi _, _ => rfl
  | .bad, _ => rfl
  | .sl k ver off len esz cap, hf => by simp [closed] at hf
  | .agg cs, hf => by
    simp only [frz, closed] at hf ⊢
    rw [frzL_closed h cs hf]
  | .tup cs, hf => by
    simp only [frz, closed] at hf ⊢
    rw [frzL_closed h cs hf]
  | .ifc t x, hf => by
    simp only [frz, closed] at hf ⊢
    rw [frz_closed h x hf]
theorem frzL_closed (h : List Row) : ∀ l : List LV, closedL l = true → frzL h l = l
  | [], _ => rfl
  | x :: l, hf => by
    simp only [frzL, closedL, Bool.and_eq_true] at hf ⊢
    rw [frz_closed h x hf.1, frzL_closed h l hf.2]
end
theorem call11 (k : Nat) (h : List Row) (ov : LV) (V : List Int) (hov : frz h ov = slv V) (hV : V.length ≤ 500) :
    callE (evF cm (k + 600)) false 0 h (.f 11 []) [ov, slv V] = some (.b true, h) := by
  have hs := slv_slI V
  have e := e11 k V _ _ hs hs hV
  by_cases hc : closed ov = true
  · have : ov = slv V := by rw [← hov, frz_closed h ov hc]
    subst this
    rw [call_P (by simp [closedL, hs.cl]), List.append_nil, e, orE_some]
  · have hc1 : closedL ([ov, slv V] ++ []) = false := by simp [closedL, hc]
    have hf : frzL h ([ov, slv V] ++ []) = [slv V, slv V] := by simp [frzL, hov, hs.fr]
    have hc2 : closedL (frzL h ([ov, slv V] ++ [])) = true := by rw [hf]; simp [closedL, hs.cl]
    rw [call_B hc1 hc2, hf, e, orF_some]
    rfl
def fg6 : List Nat := [27, 26, 45, 44, 43, 42, 41, 40, 39, 38, 37, 36, 35, 34, 33, 32, 31, 30, 29, 28, 25, 24, 23, 22]
def S6 (L : List Int) (S PK : LV) (most : Int) (i : Nat) (s : St) : Prop := ∃ T g a X, s = (T, g) ∧ T.length = 71 ∧ getT T 0 = S ∧ getT T 1 = PK ∧ getT T 2 = .i most ∧ getT T 7 = growS a i ∧ getT T 8 = .i i ∧ Th9 g X L a i
theorem step6 (K : Nat) (L : List Int) (S PK : LV) (hS : SlI L S) (hl : L.length ≤ 12) (most : Int) (i : Nat) (s : St) (hi : i < L.length) (hs : S6 L S PK most i s) :
    ∃ s', evCode (evF cm K) K 0 c6b0 (cleanN fg6 s) = some (.nrm, s') ∧ S6 L S PK most (i + 1) s' := by
  obtain ⟨T, g, a, X, rfl, ht, t0, t1, t2, t7, t8, hT⟩ := hs
  rw [tl71 ht]
  have g1 : (i : Int) < L.length := by omega
  have hx := hS.ix i (by omega) g1
  have hr := rd_ints L i hi
  have hr' := rd_ints' L i hi
  rw [Int.toNat_natCast] at hx
  have w1 : IntKind.i64.wrap ((i : Int) + 1) = (i : Int) + 1 := w64 _ (by omega) (by omega)
  by_cases h : L.getD i 0 < 1
  · obtain ⟨a', g', h1, h2⟩ := th9_nil hT (by omega) h
    simp -implicitDefEqProofs only [c6b0, fg6, t0, t1, t2, t7, t8, hS.len, hx, hr, hr', h, h1, g1, w1, push_cast, Nat.reduceAdd, Nat.reduceMul, Nat.reduceSub, Nat.reduceLT, Nat.reduceLeDiff, Nat.reduceEqDiff, Nat.reducePow, Int.reduceToNat, Int.reduceLT, Int.reduceLE, Int.reduceNeg, Int.reduceEq, Int.reducePow, reduceIte, reduceCtorEq, Int.reduceMul, Int.reduceAdd, Int.reduceSub, Int.reduceMod, Int.reduceDiv, Int.reduceTDiv, Int.reduceTMod, iter_s]
    exact ⟨_, rfl, _, g', a', _, rfl, rfl, rfl, rfl, rfl, rfl, rfl, h2⟩
  · obtain ⟨a', g', h1, h2⟩ := th9_live hT (by omega) (show 0 < L.getD i 0 by omega)
    simp -implicitDefEqProofs only [c6b0, fg6, t0, t1, t2, t7, t8, hS.len, hx, hr, hr', h, h1, g1, w1, push_cast, Nat.reduceAdd, Nat.reduceMul, Nat.reduceSub, Nat.reduceLT, Nat.reduceLeDiff, Nat.reduceEqDiff, Nat.reducePow, Int.reduceToNat, Int.reduceLT, Int.reduceLE, Int.reduceNeg, Int.reduceEq, Int.reducePow, reduceIte, reduceCtorEq, Int.reduceMul, Int.reduceAdd, Int.reduceSub, Int.reduceMod, Int.reduceDiv, Int.reduceTDiv, Int.reduceTMod, iter_s]
    exact ⟨_, rfl, _, g', a', _, rfl, rfl, rfl, rfl, rfl, rfl, rfl, h2⟩
theorem last6 (K : Nat) (L : List Int) (S PK : LV) (hS : SlI L S) (most : Int) (s : St) (hs : S6 L S PK most L.length s) :
    ∃ s', evCode (evF cm K) K 0 c6b0 (cleanN fg6 s) = some (.exit 0, s') ∧ S6 L S PK most L.length s' := by
  obtain ⟨T, g, a, X, rfl, ht, t0, t1, t2, t7, t8, hT⟩ := hs
  rw [tl71 ht]
  have g1 : ¬ (L.length : Int) < L.length := by omega
  simp -implicitDefEqProofs only [c6b0, fg6, t0, t1, t2, t7, t8, hS.len, g1, push_cast, Nat.reduceAdd, Nat.reduceMul, Nat.reduceSub, Nat.reduceLT, Nat.reduceLeDiff, Nat.reduceEqDiff, Nat.reducePow, Int.reduceToNat, Int.reduceLT, Int.reduceLE, Int.reduceNeg, Int.reduceEq, Int.reducePow, reduceIte, reduceCtorEq, Int.reduceMul, Int.reduceAdd, Int.reduceSub, Int.reduceMod, Int.reduceDiv, Int.reduceTDiv, Int.reduceTMod, iter_s]
  exact ⟨_, rfl, _, g, a, X, rfl, rfl, rfl, rfl, rfl, rfl, rfl, hT⟩
theorem e6 (k : Nat) (L P : List Int) (S PK : LV) (hS : pkV L S) (hPK : pkV P PK) (hP : ∀ p ∈ P, -9223372036854775808 ≤ p ∧ p ≤ 9223372036854775807) (most : Int) : evP (evF cm (k + 700)) 6 [S, PK, .i most] = some (.b true) := by
  rw [evP_fun (m := c6) rfl _ _ rfl]
  have hSl := pk_slI hS
  have hPl := pk_slI hPK
  by_cases hlt : lightP L
  · have k7 := fun k => e7 k L S hSl hlt
    by_cases hp : P.length ≤ 500
    · have g1 : ¬ (500 : Int) < (P.length : Int) := by omega
      have hL := light_lt hlt hP
      have hl := hL.len
      have key : ∀ s I, iter (evCode (evF cm (k + 699)) (k + 699) 0 c6b0) (cleanN fg6) (k + 699) s = I → S6 L S PK most 0 s → ∃ s', I = some (.exit 0, s') ∧ S6 L S PK most L.length s' := by
        intro s I hI hs
        obtain ⟨s', h1, h2⟩ := iter_count (fun i s hi hs => step6 (k + 699) L S PK hSl hL.len most i s hi hs) (fun s hs => last6 (k + 699) L S PK hSl most s hs) L.length 0 s (k + 699) (by omega) (by omega) hs
        exact ⟨s', hI.symm.trans h1, h2⟩
      simp -implicitDefEqProofs only [c6, k7, hPl.len, g1, hSl.cl, push_cast, Nat.reduceAdd, Nat.reduceMul, Nat.reduceSub, Nat.reduceLT, Nat.reduceLeDiff, Nat.reduceEqDiff, Nat.reducePow, Int.reduceToNat, Int.reduceLT, Int.reduceLE, Int.reduceNeg, Int.reduceEq, Int.reducePow, reduceIte, reduceCtorEq, Int.reduceMul, Int.reduceAdd, Int.reduceSub, Int.reduceMod, Int.reduceDiv, Int.reduceTDiv, Int.reduceTMod]
      generalize hI : iter _ _ _ _ = I
      obtain ⟨s', hI2, T, g, a, X, rfl, ht, t0, t1, t2, t7, t8, hT⟩ := key _ _ hI ⟨_, [], 0, [], rfl, rfl, rfl, rfl, rfl, rfl, rfl, th9_0 _ _⟩
      subst hI2
      clear hI
      obtain ⟨h', ov, h1, h2⟩ := call17 (k + 99) 0 L P hL PK hPK most g a X hT
      have k10 : evP (evF cm (k + 699)) 10 [S, PK, .i most] = _ := e10 (k + 99) L P hL S PK hS hPK most
      have hol := out_len L P most hL.mu
      have k11 := call11 (k + 99) h' ov (res L P most).out h2 (by omega)
      have cls := hSl.cl
      have clp := hPl.cl
      rw [tl71 ht]
      simp -implicitDefEqProofs only [t0, t1, t2, t7, t8, h1, k10, k11, cls, clp, e8, push_cast, Nat.reduceAdd, Nat.reduceMul, Nat.reduceSub, Nat.reduceLT, Nat.reduceLeDiff, Nat.reduceEqDiff, Nat.reducePow, Int.reduceToNat, Int.reduceLT, Int.reduceLE, Int.reduceNeg, Int.reduceEq, Int.reducePow, reduceIte, reduceCtorEq, Int.reduceMul, Int.reduceAdd, Int.reduceSub, Int.reduceMod, Int.reduceDiv, Int.reduceTDiv, Int.reduceTMod]
    · have g1 : (500 : Int) < (P.length : Int) := by omega
      simp -implicitDefEqProofs only [c6, k7, hPl.len, g1, e8, hSl.cl, push_cast, Nat.reduceAdd, Nat.reduceMul, Nat.reduceSub, Nat.reduceLT, Nat.reduceLeDiff, Nat.reduceEqDiff, Nat.reducePow, Int.reduceToNat, Int.reduceLT, Int.reduceLE, Int.reduceNeg, Int.reduceEq, Int.reducePow, reduceIte, reduceCtorEq, Int.reduceMul, Int.reduceAdd, Int.reduceSub, Int.reduceMod, Int.reduceDiv, Int.reduceTDiv, Int.reduceTMod]
  · have k7 := fun k => e7f k L S hSl hlt
    simp -implicitDefEqProofs only [c6, k7, hPl.len, e8, hSl.cl, push_cast, Nat.reduceAdd, Nat.reduceMul, Nat.reduceSub, Nat.reduceLT, Nat.reduceLeDiff, Nat.reduceEqDiff, Nat.reducePow, Int.reduceToNat, Int.reduceLT, Int.reduceLE, Int.reduceNeg, Int.reduceEq, Int.reducePow, reduceIte, reduceCtorEq, Int.reduceMul, Int.reduceAdd, Int.reduceSub, Int.reduceMod, Int.reduceDiv, Int.reduceTDiv, Int.reduceTMod]
end Go.Proofs.Ytbmfmcimcdajcaa
