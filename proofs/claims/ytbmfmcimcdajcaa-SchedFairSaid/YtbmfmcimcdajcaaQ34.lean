/- Behind the picks each live thread does a step (SchedFair), as the evaluator answers. -/
import Derived.Test.YtbmfmcimcdajcaaN34
set_option linter.unusedSimpArgs false
set_option linter.unusedVariables false
set_option maxRecDepth 100000
set_option maxHeartbeats 16000000
namespace Go.Proofs.Ytbmfmcimcdajcaa
open Go
theorem tl119 {T : List LV} (h : T.length = 119) : T = [getT T 0, getT T 1, getT T 2, getT T 3, getT T 4, getT T 5, getT T 6, getT T 7, getT T 8, getT T 9, getT T 10, getT T 11, getT T 12, getT T 13, getT T 14, getT T 15, getT T 16, getT T 17, getT T 18, getT T 19, getT T 20, getT T 21, getT T 22, getT T 23, getT T 24, getT T 25, getT T 26, getT T 27, getT T 28, getT T 29, getT T 30, getT T 31, getT T 32, getT T 33, getT T 34, getT T 35, getT T 36, getT T 37, getT T 38, getT T 39, getT T 40, getT T 41, getT T 42, getT T 43, getT T 44, getT T 45, getT T 46, getT T 47, getT T 48, getT T 49, getT T 50, getT T 51, getT T 52, getT T 53, getT T 54, getT T 55, getT T 56, getT T 57, getT T 58, getT T 59, getT T 60, getT T 61, getT T 62, getT T 63, getT T 64, getT T 65, getT T 66, getT T 67, getT T 68, getT T 69, getT T 70, getT T 71, getT T 72, getT T 73, getT T 74, getT T 75, getT T 76, getT T 77, getT T 78, getT T 79, getT T 80, getT T 81, getT T 82, getT T 83, getT T 84, getT T 85, getT T 86, getT T 87, getT T 88, getT T 89, getT T 90, getT T 91, getT T 92, getT T 93, getT T 94, getT T 95, getT T 96, getT T 97, getT T 98, getT T 99, getT T 100, getT T 101, getT T 102, getT T 103, getT T 104, getT T 105, getT T 106, getT T 107, getT T 108, getT T 109, getT T 110, getT T 111, getT T 112, getT T 113, getT T 114, getT T 115, getT T 116, getT T 117, getT T 118] := tlT h
/-! ### the sum -/
theorem mu_take (L : List Int) (i : Nat) (hi : i < L.length) : mu (L.take (i + 1)) = mu (L.take i) + (L.getD i 0).toNat := by
  rw [List.take_add_one, List.getElem?_eq_getElem hi]
  simp only [mu, List.map_append, List.sum_append]
  simp [hi]
theorem mu_take_le (L : List Int) : ∀ i, i ≤ L.length → (∀ j : Nat, L.getD j 0 ≤ 40) → mu (L.take i) ≤ 40 * i
  | 0, _, _ => by simp [mu]
  | i + 1, hi, h => by
    have h1 := mu_take_le L i (by omega) h
    have h2 := h i
    rw [mu_take L i (by omega)]
    omega
def S15 (L : List Int) (S : LV) (i : Nat) (s : St) : Prop := ∃ T, s = (T, []) ∧ T.length = 22 ∧ getT T 0 = S ∧ getT T 1 = .i 40 ∧ getT T 5 = .i (mu (L.take i)) ∧ getT T 6 = .i i
theorem step15 (K : Nat) (hK : 5 ≤ K) (L : List Int) (S : LV) (hS : SlI L S) (hl : L.length ≤ 12) (h40 : ∀ j : Nat, L.getD j 0 ≤ 40) (i : Nat) (s : St) (hi : i < L.length) (hs : S15 L S i s) :
    ∃ s', evCode (evF cm K) K 0 c15b0 (cleanN fg13 s) = some (.nrm, s') ∧ S15 L S (i + 1) s' := by
  obtain ⟨k, rfl⟩ : ∃ k, K = k + 1 := ⟨K - 1, by omega⟩
  obtain ⟨T, rfl, ht, t0, t1, t5, t6⟩ := hs
  rw [tl22 ht]
  have g1 : (i : Int) < L.length := by omega
  have hx := hS.ix i (by omega) g1
  have hr := rd_ints L i hi
  have hr' := rd_ints' L i hi
  rw [Int.toNat_natCast] at hx
  have hm := mu_take L i hi
  have hb := mu_take_le L i (by omega) h40
  have h4 := h40 i
  have w1 : IntKind.i64.wrap ((i : Int) + 1) = (i : Int) + 1 := w64 _ (by omega) (by omega)
  have hsat : (if L.getD i 0 < 0 then (0 : Int) else if 40 < L.getD i 0 then 40 else L.getD i 0) = ((L.getD i 0).toNat : Int) := by
    split
    · omega
    · split <;> omega
  have k21 : ∀ k, evP (evF cm (k + 1)) 21 [.i (L.getD i 0), .i 0, .i 40] = some (.i ((L.getD i 0).toNat : Int)) := fun k => by rw [e21, hsat]
  have w2 : IntKind.i64.wrap ((mu (L.take i) : Int) + ((L.getD i 0).toNat : Int)) = (mu (L.take i) : Int) + ((L.getD i 0).toNat : Int) := w64 _ (by omega) (by omega)
  unfold S15
  rw [hm]
  generalize mu (L.take i) = mm at *
  simp -implicitDefEqProofs only [c15b0, fg13, t0, t1, t5, t6, hS.len, hx, hr, hr', k21, g1, w1, w2, push_cast, Nat.reduceAdd, Nat.reduceMul, Nat.reduceSub, Nat.reduceLT, Nat.reduceLeDiff, Nat.reduceEqDiff, Nat.reducePow, Int.reduceToNat, Int.reduceLT, Int.reduceLE, Int.reduceNeg, Int.reduceEq, Int.reducePow, reduceIte, reduceCtorEq, Int.reduceMul, Int.reduceAdd, Int.reduceSub, Int.reduceMod, Int.reduceDiv, Int.reduceTDiv, Int.reduceTMod, iter_s]
  exact ⟨_, rfl, _, rfl, rfl, rfl, rfl, rfl, rfl⟩
theorem last15 (K : Nat) (L : List Int) (S : LV) (hS : SlI L S) (s : St) (hs : S15 L S L.length s) :
    ∃ s', evCode (evF cm K) K 0 c15b0 (cleanN fg13 s) = some (.exit 0, s') ∧ S15 L S L.length s' := by
  obtain ⟨T, rfl, ht, t0, t1, t5, t6⟩ := hs
  rw [tl22 ht]
  have g1 : ¬ (L.length : Int) < L.length := by omega
  simp -implicitDefEqProofs only [c15b0, fg13, t0, t1, t5, t6, hS.len, g1, push_cast, Nat.reduceAdd, Nat.reduceMul, Nat.reduceSub, Nat.reduceLT, Nat.reduceLeDiff, Nat.reduceEqDiff, Nat.reducePow, Int.reduceToNat, Int.reduceLT, Int.reduceLE, Int.reduceNeg, Int.reduceEq, Int.reducePow, reduceIte, reduceCtorEq, Int.reduceMul, Int.reduceAdd, Int.reduceSub, Int.reduceMod, Int.reduceDiv, Int.reduceTDiv, Int.reduceTMod, iter_s]
  exact ⟨_, rfl, _, rfl, rfl, rfl, rfl, rfl, rfl⟩
theorem e15 (k : Nat) (L : List Int) (S : LV) (hS : SlI L S) (hl : L.length ≤ 12) (h40 : ∀ j : Nat, L.getD j 0 ≤ 40) : evP (evF cm (k + 30)) 15 [S, .i 40] = some (.i (mu L : Nat)) := by
  rw [evP_fun (m := c15) rfl _ _ rfl]
  have key : ∀ s I, iter (evCode (evF cm (k + 29)) (k + 29) 0 c15b0) (cleanN fg13) (k + 29) s = I → S15 L S 0 s → ∃ s', I = some (.exit 0, s') ∧ S15 L S L.length s' := by
    intro s I hI hs
    obtain ⟨s', h1, h2⟩ := iter_count (fun i s hi hs => step15 (k + 29) (by omega) L S hS hl h40 i s hi hs) (fun s hs => last15 (k + 29) L S hS s hs) L.length 0 s (k + 29) (by omega) (by omega) hs
    exact ⟨s', hI.symm.trans h1, h2⟩
  simp -implicitDefEqProofs only [c15, push_cast, Nat.reduceAdd, Nat.reduceMul, Nat.reduceSub, Nat.reduceLT, Nat.reduceLeDiff, Nat.reduceEqDiff, Nat.reducePow, Int.reduceToNat, Int.reduceLT, Int.reduceLE, Int.reduceNeg, Int.reduceEq, Int.reducePow, reduceIte, reduceCtorEq, Int.reduceMul, Int.reduceAdd, Int.reduceSub, Int.reduceMod, Int.reduceDiv, Int.reduceTDiv, Int.reduceTMod]
  generalize hI : iter _ _ _ _ = I
  obtain ⟨s', hI2, T, rfl, ht, t0, t1, t5, t6⟩ := key _ _ hI ⟨_, rfl, rfl, rfl, rfl, rfl, rfl⟩
  subst hI2
  rw [List.take_of_length_le (Nat.le_refl _)] at t5
  rw [tl22 ht]
  simp -implicitDefEqProofs only [t5, push_cast, Nat.reduceAdd, Nat.reduceMul, Nat.reduceSub, Nat.reduceLT, Nat.reduceLeDiff, Nat.reduceEqDiff, Nat.reducePow, Int.reduceToNat, Int.reduceLT, Int.reduceLE, Int.reduceNeg, Int.reduceEq, Int.reducePow, reduceIte, reduceCtorEq, Int.reduceMul, Int.reduceAdd, Int.reduceSub, Int.reduceMod, Int.reduceDiv, Int.reduceTDiv, Int.reduceTMod]
/-! ### each comes, of as many as are live -/
def fg4 : List Nat := [63, 62, 4, 79, 78, 77, 76, 75, 74, 73, 72, 71, 70, 69, 68, 67, 66, 65, 64, 61, 60, 59, 58]
def S4 (Q O : List Int) (PK OV : LV) (n : Nat) (i nl t : Nat) (s : St) : Prop := ∃ T, s = (T, [⟨0, Q.map LV.i⟩]) ∧ T.length = 119 ∧ getT T 1 = PK ∧ getT T 5 = OV ∧ getT T 7 = .sl 0 0 0 n 1 n ∧ getT T 8 = .i i ∧ getT T 9 = .i nl ∧ getT T 10 = .i t
theorem step4 (K : Nat) (hK : 620 ≤ K) (Q O : List Int) (PK : LV) (n i nl t : Nat) (hn : n ≤ 12) (hQ : Q.length = n) (hO : O.length ≤ 500) (hnl : 0 < nl) (hin : i + nl ≤ O.length)
    (hc : 0 < Q.getD t 0 → ((O.drop i).take nl).count (t : Int) ≠ 0) (s : St) (ht : t < n) (hs : S4 Q O PK (.im (O.map LV.i) O.length false) n i nl t s) :
    ∃ s', evCode (evF cm K) K 0 c4b0 (cleanN fg4 s) = some (.nrm, s') ∧ S4 Q O PK (.im (O.map LV.i) O.length false) n i nl (t + 1) s' := by
  obtain ⟨k, rfl⟩ : ∃ k, K = k + 600 := ⟨K - 600, by omega⟩
  obtain ⟨T, rfl, hT, t1, t5, t7, t8, t9, t10⟩ := hs
  rw [tl119 hT]
  have g1 : (t : Int) < (n : Int) := by omega
  have g2 : (0 : Int) ≤ (t : Int) := by omega
  have hget : (Q.map LV.i)[t]? = some (.i (Q.getD t 0)) := by simp [show t < Q.length by omega]
  have w1 : IntKind.i64.wrap ((t : Int) + 1) = (t : Int) + 1 := w64 _ (by omega) (by omega)
  by_cases h : 0 < Q.getD t 0
  · have hcc := hc h
    have w2 : IntKind.i64.wrap ((i : Int) + (nl : Int)) = (i : Int) + (nl : Int) := w64 _ (by omega) (by omega)
    have g3 : (0 : Int) ≤ (i : Int) := by omega
    have g4 : (i : Int) ≤ (i : Int) + (nl : Int) := by omega
    have g5 : (i : Int) + (nl : Int) ≤ (O.length : Int) := by omega
    have g6 : ¬ (i : Int) = (i : Int) + (nl : Int) := by omega
    have n1 : ((i : Int) + (nl : Int)).toNat - i = nl := by omega
    have hsl : List.take nl (List.drop i (O.map LV.i)) = ((O.drop i).take nl).map LV.i := by rw [List.map_take, List.map_drop]
    have hln : ((O.drop i).take nl).length = nl := by simp; omega
    have hS := slI_im ((O.drop i).take nl) (false && decide ((i : Int) + (nl : Int) = (O.length : Int)))
    rw [hln] at hS
    have k13 := fun k => e13 k _ _ hS (by omega) (t : Int)
    have cl := closedL_ints ((O.drop i).take nl)
    have hz : ¬ ((((O.drop i).take nl).count (t : Int) : Nat) : Int) = 0 := by omega
    generalize hcn : ((O.drop i).take nl).count (t : Int) = cn at *
    simp only [Bool.false_and] at k13
    simp -implicitDefEqProofs only [c4b0, fg4, t1, t5, t7, t8, t9, t10, hget, g1, g2, g3, g4, g5, g6, n1, hsl, k13, cl, hz, h, w1, w2, Bool.false_and, push_cast, Nat.reduceAdd, Nat.reduceMul, Nat.reduceSub, Nat.reduceLT, Nat.reduceLeDiff, Nat.reduceEqDiff, Nat.reducePow, Int.reduceToNat, Int.reduceLT, Int.reduceLE, Int.reduceNeg, Int.reduceEq, Int.reducePow, reduceIte, reduceCtorEq, Int.reduceMul, Int.reduceAdd, Int.reduceSub, Int.reduceMod, Int.reduceDiv, Int.reduceTDiv, Int.reduceTMod, iter_s]
    exact ⟨_, rfl, _, rfl, rfl, rfl, rfl, rfl, rfl, rfl, rfl⟩
  · simp -implicitDefEqProofs only [c4b0, fg4, t1, t5, t7, t8, t9, t10, hget, g1, g2, h, w1, push_cast, Nat.reduceAdd, Nat.reduceMul, Nat.reduceSub, Nat.reduceLT, Nat.reduceLeDiff, Nat.reduceEqDiff, Nat.reducePow, Int.reduceToNat, Int.reduceLT, Int.reduceLE, Int.reduceNeg, Int.reduceEq, Int.reducePow, reduceIte, reduceCtorEq, Int.reduceMul, Int.reduceAdd, Int.reduceSub, Int.reduceMod, Int.reduceDiv, Int.reduceTDiv, Int.reduceTMod, iter_s]
    exact ⟨_, rfl, _, rfl, rfl, rfl, rfl, rfl, rfl, rfl, rfl⟩
theorem last4 (K : Nat) (Q O : List Int) (PK OV : LV) (n i nl : Nat) (s : St) (hs : S4 Q O PK OV n i nl n s) :
    ∃ s', evCode (evF cm K) K 0 c4b0 (cleanN fg4 s) = some (.exit 2, s') ∧ S4 Q O PK OV n i nl n s' := by
  obtain ⟨T, rfl, hT, t1, t5, t7, t8, t9, t10⟩ := hs
  rw [tl119 hT]
  have g1 : ¬ (n : Int) < (n : Int) := by omega
  simp -implicitDefEqProofs only [c4b0, fg4, t1, t5, t7, t8, t9, t10, g1, push_cast, Nat.reduceAdd, Nat.reduceMul, Nat.reduceSub, Nat.reduceLT, Nat.reduceLeDiff, Nat.reduceEqDiff, Nat.reducePow, Int.reduceToNat, Int.reduceLT, Int.reduceLE, Int.reduceNeg, Int.reduceEq, Int.reducePow, reduceIte, reduceCtorEq, Int.reduceMul, Int.reduceAdd, Int.reduceSub, Int.reduceMod, Int.reduceDiv, Int.reduceTDiv, Int.reduceTMod, iter_s]
  exact ⟨_, rfl, _, rfl, rfl, rfl, rfl, rfl, rfl, rfl, rfl⟩
end Go.Proofs.Ytbmfmcimcdajcaa
