/- Behind the picks each live thread does a step (SchedFair), as the evaluator answers. -/
import Derived.Test.YtbmfmcimcdajcaaU34
set_option linter.unusedSimpArgs false
set_option linter.unusedVariables false
set_option maxRecDepth 100000
set_option maxHeartbeats 16000000
namespace Go.Proofs.Ytbmfmcimcdajcaa
open Go
theorem all_ints : ∀ L : List Int, (L.map LV.i).all atomB = true
  | [] => rfl
  | x :: L => all_ints L
theorem e4 (k : Nat) (L P : List Int) (S PK : LV) (hS : pkV L S) (hPK : pkV P PK) (hP : ∀ p ∈ P, -9223372036854775808 ≤ p ∧ p ≤ 9223372036854775807) : evP (evF cm (k + 800)) 4 [S, PK] = some (.b true) := by
  rw [evP_fun (m := c4) rfl _ _ rfl]
  have hSl := pk_slI hS
  have hPl := pk_slI hPK
  by_cases hlt : lightP L
  · have k7 := fun k => e7 k L S hSl hlt
    by_cases hp : P.length ≤ 500
    · have g1 : ¬ (500 : Int) < (P.length : Int) := by omega
      have hL := light_lt hlt hP
      have hl := hL.len
      have hmu := hL.mu
      have k9 := fun k => e9 k L P hL S PK hSl hPK 1000
      have k15 := fun k => e15 k L S hSl hL.len hL.le
      obtain ⟨r1, r2, r3, r4⟩ := run_all (L := L) (P := P) (most := 1000) (by omega)
      have hO : (res L P 1000).out = (List.range (mu L)).map fun j => ((sts j (m0 L P)).tn : Int) := by
        rw [r1, sts_out]; simp [m0]
      have ho := slv_slI (res L P 1000).out
      have hlo := ho.len
      rw [r3] at hlo
      have cls := hSl.cl
      have clp := hPl.cl
      rw [decide_eq_true r2] at k9
      by_cases hz : mu L = 0
      · have e1 : (res L P 1000).out = [] := List.length_eq_zero_iff.1 (by omega)
        rw [hz] at k15
        rw [e1] at k9
        have e3 : slv [] = .nils := rfl
        rw [e3] at k9
        have g2 : ¬ (0 : Int) < 0 := by omega
        rcases hS with ⟨rfl, rfl⟩ | rfl
        · simp -implicitDefEqProofs only [c4, c4b1, k7, hPl.len, g1, g2, k9, k15, cls, clp, e8, push_cast, Nat.reduceAdd, Nat.reduceMul, Nat.reduceSub, Nat.reduceLT, Nat.reduceLeDiff, Nat.reduceEqDiff, Nat.reducePow, Int.reduceToNat, Int.reduceLT, Int.reduceLE, Int.reduceNeg, Int.reduceEq, Int.reducePow, reduceIte, reduceCtorEq, Int.reduceMul, Int.reduceAdd, Int.reduceSub, Int.reduceMod, Int.reduceDiv, Int.reduceTDiv, Int.reduceTMod, iter_s]
        · by_cases hn : L = []
          · subst hn
            simp only [List.map_nil, List.length_nil] at k7 k9 k15 cls
            simp -implicitDefEqProofs only [c4, c4b1, k7, hPl.len, g1, g2, k9, k15, cls, clp, e8, push_cast, Nat.reduceAdd, Nat.reduceMul, Nat.reduceSub, Nat.reduceLT, Nat.reduceLeDiff, Nat.reduceEqDiff, Nat.reducePow, Int.reduceToNat, Int.reduceLT, Int.reduceLE, Int.reduceNeg, Int.reduceEq, Int.reducePow, reduceIte, reduceCtorEq, Int.reduceMul, Int.reduceAdd, Int.reduceSub, Int.reduceMod, Int.reduceDiv, Int.reduceTDiv, Int.reduceTMod, iter_s]
          · have hat : (L.map LV.i).all atomB = true := all_ints L
            have hlen : (L.map LV.i).length = L.length := by simp
            have hlz : ¬ L.length = 0 := fun h => hn (List.length_eq_zero_iff.1 h)
            have hb1 : L.length ≤ 9223372036854775807 := by omega
            have hb2 : L.length * 8 ≤ 140737488355328 := by omega
            simp -implicitDefEqProofs only [c4, c4b1, k7, hPl.len, g1, g2, k9, k15, cls, closedL_ints L, clp, e8, hat, hlen, hlz, hb1, hb2, push_cast, Nat.reduceAdd, Nat.reduceMul, Nat.reduceSub, Nat.reduceLT, Nat.reduceLeDiff, Nat.reduceEqDiff, Nat.reducePow, Int.reduceToNat, Int.reduceLT, Int.reduceLE, Int.reduceNeg, Int.reduceEq, Int.reducePow, reduceIte, reduceCtorEq, Int.reduceMul, Int.reduceAdd, Int.reduceSub, Int.reduceMod, Int.reduceDiv, Int.reduceTDiv, Int.reduceTMod, iter_s]
      · obtain ⟨y, o, hyo⟩ : ∃ y o, (res L P 1000).out = y :: o := by
          cases h : (res L P 1000).out with
          | nil => rw [h] at r3; simp at r3; omega
          | cons y o => exact ⟨y, o, rfl⟩
        have hsv : slv (res L P 1000).out = .im ((res L P 1000).out.map LV.i) (res L P 1000).out.length false := by rw [hyo]; rfl
        rw [hsv] at k9 hlo ho
        generalize (res L P 1000).out = O at *
        have hne : (O.length : Int) = (mu L : Int) := by omega
        have hLne : L ≠ [] := by rintro rfl; exact hz rfl
        have hS' : S = .im (L.map LV.i) L.length false := by
          rcases hS with ⟨h, _⟩ | h
          · exact absurd h hLne
          · exact h
        subst hS'
        have hat : (L.map LV.i).all atomB = true := all_ints L
        have hlen : (L.map LV.i).length = L.length := by simp
        have hlz : ¬ L.length = 0 := fun h => hLne (List.length_eq_zero_iff.1 h)
        have hb1 : L.length ≤ 9223372036854775807 := by omega
        have hb2 : L.length * 8 ≤ 140737488355328 := by omega
        have key : ∀ s I, iter (evCode (evF cm (k + 799)) (k + 799) 0 c4b1) (cleanN fg4o) (k + 799) s = I → S4o L P PK (.im (O.map LV.i) O.length false) 0 s → ∃ T h, I = some (.exit 0, (T, h)) ∧ T.length = 119 := by
          intro s I hI hs
          obtain ⟨s', h1, T, rfl, h3⟩ := iter_count (fun i s hi hs => step4o (k + 799) (by omega) L P hL PK hPK O r3 hO r4 i s (by omega) hs) (fun s hs => last4o (k + 799) L P PK O s hs) O.length 0 s (k + 799) (by omega) (by omega) hs
          exact ⟨T, _, hI.symm.trans h1, h3⟩
        simp -implicitDefEqProofs only [c4, k7, hPl.len, g1, k9, k15, cls, closedL_ints L, closedL_ints O, clp, hlo, hat, hlen, hlz, hb1, hb2, hne, push_cast, Nat.reduceAdd, Nat.reduceMul, Nat.reduceSub, Nat.reduceLT, Nat.reduceLeDiff, Nat.reduceEqDiff, Nat.reducePow, Int.reduceToNat, Int.reduceLT, Int.reduceLE, Int.reduceNeg, Int.reduceEq, Int.reducePow, reduceIte, reduceCtorEq, Int.reduceMul, Int.reduceAdd, Int.reduceSub, Int.reduceMod, Int.reduceDiv, Int.reduceTDiv, Int.reduceTMod]
        generalize hI : iter _ _ _ _ = I
        obtain ⟨T, h, hI2, ht⟩ := key _ _ hI ⟨_, rfl, rfl, rfl, rfl, rfl, rfl⟩
        subst hI2
        rw [tl119 ht]
        simp -implicitDefEqProofs only [e8, push_cast, Nat.reduceAdd, Nat.reduceMul, Nat.reduceSub, Nat.reduceLT, Nat.reduceLeDiff, Nat.reduceEqDiff, Nat.reducePow, Int.reduceToNat, Int.reduceLT, Int.reduceLE, Int.reduceNeg, Int.reduceEq, Int.reducePow, reduceIte, reduceCtorEq, Int.reduceMul, Int.reduceAdd, Int.reduceSub, Int.reduceMod, Int.reduceDiv, Int.reduceTDiv, Int.reduceTMod]
    · have g1 : (500 : Int) < (P.length : Int) := by omega
      simp -implicitDefEqProofs only [c4, k7, hPl.len, g1, e8, hSl.cl, push_cast, Nat.reduceAdd, Nat.reduceMul, Nat.reduceSub, Nat.reduceLT, Nat.reduceLeDiff, Nat.reduceEqDiff, Nat.reducePow, Int.reduceToNat, Int.reduceLT, Int.reduceLE, Int.reduceNeg, Int.reduceEq, Int.reducePow, reduceIte, reduceCtorEq, Int.reduceMul, Int.reduceAdd, Int.reduceSub, Int.reduceMod, Int.reduceDiv, Int.reduceTDiv, Int.reduceTMod]
  · have k7 := fun k => e7f k L S hSl hlt
    simp -implicitDefEqProofs only [c4, k7, hPl.len, e8, hSl.cl, push_cast, Nat.reduceAdd, Nat.reduceMul, Nat.reduceSub, Nat.reduceLT, Nat.reduceLeDiff, Nat.reduceEqDiff, Nat.reducePow, Int.reduceToNat, Int.reduceLT, Int.reduceLE, Int.reduceNeg, Int.reduceEq, Int.reducePow, reduceIte, reduceCtorEq, Int.reduceMul, Int.reduceAdd, Int.reduceSub, Int.reduceMod, Int.reduceDiv, Int.reduceTDiv, Int.reduceTMod]
end Go.Proofs.Ytbmfmcimcdajcaa
