/- Light threads, rows alike, counts, sums, as the evaluator answers. -/
import Derived.Test.YtbmfmcimcdajcaaL34
set_option linter.unusedSimpArgs false
set_option linter.unusedVariables false
set_option maxRecDepth 100000
set_option maxHeartbeats 16000000
namespace Go.Proofs.Ytbmfmcimcdajcaa
open Go
/-! ### light -/
def lightP (L : List Int) : Prop := L.length ≤ 12 ∧ ∀ i : Nat, i < L.length → L.getD i 0 ≤ 40
theorem light_lt {L P : List Int} (h : lightP L) (hP : ∀ p ∈ P, -9223372036854775808 ≤ p ∧ p ≤ 9223372036854775807) : Lt L P := by
  have hmu : ∀ L : List Int, (∀ i : Nat, i < L.length → L.getD i 0 ≤ 40) → mu L ≤ 40 * L.length := by
    intro L
    induction L with
    | nil => intro _; exact Nat.le_refl _
    | cons x L ih =>
      intro h
      have h0 := h 0 (by simp)
      have h1 := ih (fun i hi => by have := h (i + 1) (by simpa using hi); simpa using this)
      simp only [List.getD_cons_zero] at h0
      simp only [mu, List.map_cons, List.sum_cons, List.length_cons] at h1 ⊢
      omega
  refine ⟨h.1, fun i => ?_, ?_, hP⟩
  · by_cases hi : i < L.length
    · exact h.2 i hi
    · rw [List.getD_eq_getElem?_getD, List.getElem?_eq_none (by omega)]; simp
  · have := hmu L h.2
    have := h.1
    omega
def S7 (S : LV) (i : Nat) (s : St) : Prop := ∃ T, s = (T, []) ∧ T.length = 18 ∧ getT T 0 = S ∧ getT T 3 = .i i
def fg7 : List Nat := [12, 11, 2, 17, 16, 15, 14, 13, 10, 9, 8, 7]
theorem step7 (K : Nat) (L : List Int) (S : LV) (hS : SlI L S) (hl : L.length ≤ 12) (i : Nat) (s : St) (hi : i < L.length) (h : L.getD i 0 ≤ 40) (hs : S7 S i s) :
    ∃ s', evCode (evF cm K) K 0 c7b0 (cleanN fg7 s) = some (.nrm, s') ∧ S7 S (i + 1) s' := by
  obtain ⟨T, rfl, ht, t0, t3⟩ := hs
  rw [tl18 ht]
  have g1 : (i : Int) < L.length := by omega
  have hx := hS.ix i (by omega) g1
  have hr := rd_ints L i hi
  have hr' := rd_ints' L i hi
  rw [Int.toNat_natCast] at hx
  have w1 : IntKind.i64.wrap ((i : Int) + 1) = (i : Int) + 1 := w64 _ (by omega) (by omega)
  have g2 : ¬ 40 < L.getD i 0 := by omega
  simp -implicitDefEqProofs only [c7b0, fg7, t0, t3, hS.len, hx, hr, hr', g1, g2, w1, push_cast, Nat.reduceAdd, Nat.reduceMul, Nat.reduceSub, Nat.reduceLT, Nat.reduceLeDiff, Nat.reduceEqDiff, Nat.reducePow, Int.reduceToNat, Int.reduceLT, Int.reduceLE, Int.reduceNeg, Int.reduceEq, Int.reducePow, reduceIte, reduceCtorEq, Int.reduceMul, Int.reduceAdd, Int.reduceSub, Int.reduceMod, Int.reduceDiv, Int.reduceTDiv, Int.reduceTMod, iter_s]
  exact ⟨_, rfl, _, rfl, rfl, rfl, rfl⟩
theorem last7 (K : Nat) (L : List Int) (S : LV) (hS : SlI L S) (s : St) (hs : S7 S L.length s) :
    ∃ s', evCode (evF cm K) K 0 c7b0 (cleanN fg7 s) = some (.exit 0, s') ∧ ∃ T, s' = (T, []) ∧ T.length = 18 := by
  obtain ⟨T, rfl, ht, t0, t3⟩ := hs
  rw [tl18 ht]
  have g1 : ¬ (L.length : Int) < L.length := by omega
  simp -implicitDefEqProofs only [c7b0, fg7, t0, t3, hS.len, g1, push_cast, Nat.reduceAdd, Nat.reduceMul, Nat.reduceSub, Nat.reduceLT, Nat.reduceLeDiff, Nat.reduceEqDiff, Nat.reducePow, Int.reduceToNat, Int.reduceLT, Int.reduceLE, Int.reduceNeg, Int.reduceEq, Int.reducePow, reduceIte, reduceCtorEq, Int.reduceMul, Int.reduceAdd, Int.reduceSub, Int.reduceMod, Int.reduceDiv, Int.reduceTDiv, Int.reduceTMod, iter_s]
  exact ⟨_, rfl, _, rfl, rfl⟩
theorem fall7 (K : Nat) (L : List Int) (S : LV) (hS : SlI L S) (i : Nat) (s : St) (hi : i < L.length) (h : 40 < L.getD i 0) (hs : S7 S i s) :
    ∃ s', evCode (evF cm K) K 0 c7b0 (cleanN fg7 s) = some (.ret, s') ∧ ∃ T, s' = (T, []) ∧ T.length = 18 ∧ getT T 2 = .b false := by
  obtain ⟨T, rfl, ht, t0, t3⟩ := hs
  rw [tl18 ht]
  have g1 : (i : Int) < L.length := by omega
  have hx := hS.ix i (by omega) g1
  have hr := rd_ints L i hi
  have hr' := rd_ints' L i hi
  rw [Int.toNat_natCast] at hx
  simp -implicitDefEqProofs only [c7b0, fg7, t0, t3, hS.len, hx, hr, hr', g1, h, push_cast, Nat.reduceAdd, Nat.reduceMul, Nat.reduceSub, Nat.reduceLT, Nat.reduceLeDiff, Nat.reduceEqDiff, Nat.reducePow, Int.reduceToNat, Int.reduceLT, Int.reduceLE, Int.reduceNeg, Int.reduceEq, Int.reducePow, reduceIte, reduceCtorEq, Int.reduceMul, Int.reduceAdd, Int.reduceSub, Int.reduceMod, Int.reduceDiv, Int.reduceTDiv, Int.reduceTMod, iter_s]
  exact ⟨_, rfl, _, rfl, rfl, rfl⟩
theorem e7 (k : Nat) (L : List Int) (S : LV) (hS : SlI L S) (h : lightP L) : evP (evF cm (k + 20)) 7 [S] = some (.b true) := by
  rw [evP_fun (m := c7) rfl _ _ rfl]
  have g1 : ¬ (12 : Int) < (L.length : Int) := by have := h.1; omega
  have key : ∀ s I, iter (evCode (evF cm (k + 19)) (k + 19) 0 c7b0) (cleanN fg7) (k + 19) s = I → S7 S 0 s → ∃ T, I = some (.exit 0, (T, [])) ∧ T.length = 18 := by
    intro s I hI hs
    have := h.1
    obtain ⟨s', h1, T, rfl, h3⟩ := iter_count (fun i s hi hs => step7 (k + 19) L S hS h.1 i s hi (h.2 i hi) hs) (fun s hs => last7 (k + 19) L S hS s hs) L.length 0 s (k + 19) (by omega) (by omega) hs
    exact ⟨T, hI.symm.trans h1, h3⟩
  simp -implicitDefEqProofs only [c7, hS.len, g1, push_cast, Nat.reduceAdd, Nat.reduceMul, Nat.reduceSub, Nat.reduceLT, Nat.reduceLeDiff, Nat.reduceEqDiff, Nat.reducePow, Int.reduceToNat, Int.reduceLT, Int.reduceLE, Int.reduceNeg, Int.reduceEq, Int.reducePow, reduceIte, reduceCtorEq, Int.reduceMul, Int.reduceAdd, Int.reduceSub, Int.reduceMod, Int.reduceDiv, Int.reduceTDiv, Int.reduceTMod]
  generalize hI : iter _ _ _ _ = I
  obtain ⟨T, hI2, ht⟩ := key _ _ hI ⟨_, rfl, rfl, rfl, rfl⟩
  subst hI2
  rw [tl18 ht]
  simp -implicitDefEqProofs only [push_cast, Nat.reduceAdd, Nat.reduceMul, Nat.reduceSub, Nat.reduceLT, Nat.reduceLeDiff, Nat.reduceEqDiff, Nat.reducePow, Int.reduceToNat, Int.reduceLT, Int.reduceLE, Int.reduceNeg, Int.reduceEq, Int.reducePow, reduceIte, reduceCtorEq, Int.reduceMul, Int.reduceAdd, Int.reduceSub, Int.reduceMod, Int.reduceDiv, Int.reduceTDiv, Int.reduceTMod]
theorem first_bad (L : List Int) : ∀ d i : Nat, i + d = L.length → (∀ j, j < i → L.getD j 0 ≤ 40) → (∀ j, j < L.length → L.getD j 0 ≤ 40) ∨ ∃ j, j < L.length ∧ 40 < L.getD j 0 ∧ ∀ t, t < j → L.getD t 0 ≤ 40
  | 0, i, hd, h => .inl fun j hj => h j (by omega)
  | d + 1, i, hd, h => by
    by_cases hi : L.getD i 0 ≤ 40
    · exact first_bad L d (i + 1) (by omega) fun j hj => by
        by_cases hji : j = i
        · subst hji; exact hi
        · exact h j (by omega)
    · exact .inr ⟨i, by omega, by omega, h⟩
theorem e7f (k : Nat) (L : List Int) (S : LV) (hS : SlI L S) (h : ¬ lightP L) : evP (evF cm (k + 20)) 7 [S] = some (.b false) := by
  rw [evP_fun (m := c7) rfl _ _ rfl]
  by_cases hl : L.length ≤ 12
  · have g1 : ¬ (12 : Int) < (L.length : Int) := by omega
    rcases first_bad L L.length 0 (by omega) (fun j hj => by omega) with hb | ⟨j, hj, hj1, hj2⟩
    · exact absurd ⟨hl, hb⟩ h
    have key : ∀ s I, iter (evCode (evF cm (k + 19)) (k + 19) 0 c7b0) (cleanN fg7) (k + 19) s = I → S7 S 0 s → ∃ T, I = some (.ret, (T, [])) ∧ T.length = 18 ∧ getT T 2 = .b false := by
      intro s I hI hs
      obtain ⟨s', h1, T, rfl, h3, h4⟩ := iter_ret (fun i s hi hs => step7 (k + 19) L S hS hl i s (by omega) (hj2 i hi) hs) (fun s hs => fall7 (k + 19) L S hS j s hj hj1 hs) j 0 s (k + 19) (by omega) (by omega) hs
      exact ⟨T, hI.symm.trans h1, h3, h4⟩
    simp -implicitDefEqProofs only [c7, hS.len, g1, push_cast, Nat.reduceAdd, Nat.reduceMul, Nat.reduceSub, Nat.reduceLT, Nat.reduceLeDiff, Nat.reduceEqDiff, Nat.reducePow, Int.reduceToNat, Int.reduceLT, Int.reduceLE, Int.reduceNeg, Int.reduceEq, Int.reducePow, reduceIte, reduceCtorEq, Int.reduceMul, Int.reduceAdd, Int.reduceSub, Int.reduceMod, Int.reduceDiv, Int.reduceTDiv, Int.reduceTMod]
    generalize hI : iter _ _ _ _ = I
    obtain ⟨T, hI2, ht, t2⟩ := key _ _ hI ⟨_, rfl, rfl, rfl, rfl⟩
    subst hI2
    rw [tl18 ht]
    simp -implicitDefEqProofs only [t2, push_cast, Nat.reduceAdd, Nat.reduceMul, Nat.reduceSub, Nat.reduceLT, Nat.reduceLeDiff, Nat.reduceEqDiff, Nat.reducePow, Int.reduceToNat, Int.reduceLT, Int.reduceLE, Int.reduceNeg, Int.reduceEq, Int.reducePow, reduceIte, reduceCtorEq, Int.reduceMul, Int.reduceAdd, Int.reduceSub, Int.reduceMod, Int.reduceDiv, Int.reduceTDiv, Int.reduceTMod]
  · have g1 : (12 : Int) < (L.length : Int) := by omega
    simp -implicitDefEqProofs only [c7, hS.len, g1, push_cast, Nat.reduceAdd, Nat.reduceMul, Nat.reduceSub, Nat.reduceLT, Nat.reduceLeDiff, Nat.reduceEqDiff, Nat.reducePow, Int.reduceToNat, Int.reduceLT, Int.reduceLE, Int.reduceNeg, Int.reduceEq, Int.reducePow, reduceIte, reduceCtorEq, Int.reduceMul, Int.reduceAdd, Int.reduceSub, Int.reduceMod, Int.reduceDiv, Int.reduceTDiv, Int.reduceTMod]
/-! ### alike -/
def S11 (S S' : LV) (i : Nat) (s : St) : Prop := ∃ T, s = (T, []) ∧ T.length = 26 ∧ getT T 0 = S ∧ getT T 1 = S' ∧ getT T 5 = .i i
def fg11 : List Nat := [16, 15, 4, 25, 24, 23, 22, 21, 20, 19, 18, 17, 14, 13, 12, 11]
theorem step11 (K : Nat) (L : List Int) (S S' : LV) (hS : SlI L S) (hS' : SlI L S') (hl : L.length ≤ 500) (i : Nat) (s : St) (hi : i < L.length) (hs : S11 S S' i s) :
    ∃ s', evCode (evF cm K) K 0 c11b0 (cleanN fg11 s) = some (.nrm, s') ∧ S11 S S' (i + 1) s' := by
  obtain ⟨T, rfl, ht, t0, t1, t5⟩ := hs
  rw [tl26 ht]
  have g1 : (i : Int) < L.length := by omega
  have hx := hS.ix i (by omega) g1
  have hx' := hS'.ix i (by omega) g1
  have hr := rd_ints L i hi
  have hr' := rd_ints' L i hi
  rw [Int.toNat_natCast] at hx hx'
  have w1 : IntKind.i64.wrap ((i : Int) + 1) = (i : Int) + 1 := w64 _ (by omega) (by omega)
  simp -implicitDefEqProofs only [c11b0, fg11, t0, t1, t5, hS.len, hx, hx', hr, hr', g1, w1, push_cast, Nat.reduceAdd, Nat.reduceMul, Nat.reduceSub, Nat.reduceLT, Nat.reduceLeDiff, Nat.reduceEqDiff, Nat.reducePow, Int.reduceToNat, Int.reduceLT, Int.reduceLE, Int.reduceNeg, Int.reduceEq, Int.reducePow, reduceIte, reduceCtorEq, Int.reduceMul, Int.reduceAdd, Int.reduceSub, Int.reduceMod, Int.reduceDiv, Int.reduceTDiv, Int.reduceTMod, iter_s]
  exact ⟨_, rfl, _, rfl, rfl, rfl, rfl, rfl⟩
theorem last11 (K : Nat) (L : List Int) (S S' : LV) (hS : SlI L S) (s : St) (hs : S11 S S' L.length s) :
    ∃ s', evCode (evF cm K) K 0 c11b0 (cleanN fg11 s) = some (.exit 0, s') ∧ ∃ T, s' = (T, []) ∧ T.length = 26 := by
  obtain ⟨T, rfl, ht, t0, t1, t5⟩ := hs
  rw [tl26 ht]
  have g1 : ¬ (L.length : Int) < L.length := by omega
  simp -implicitDefEqProofs only [c11b0, fg11, t0, t1, t5, hS.len, g1, push_cast, Nat.reduceAdd, Nat.reduceMul, Nat.reduceSub, Nat.reduceLT, Nat.reduceLeDiff, Nat.reduceEqDiff, Nat.reducePow, Int.reduceToNat, Int.reduceLT, Int.reduceLE, Int.reduceNeg, Int.reduceEq, Int.reducePow, reduceIte, reduceCtorEq, Int.reduceMul, Int.reduceAdd, Int.reduceSub, Int.reduceMod, Int.reduceDiv, Int.reduceTDiv, Int.reduceTMod, iter_s]
  exact ⟨_, rfl, _, rfl, rfl⟩
theorem e11 (k : Nat) (L : List Int) (S S' : LV) (hS : SlI L S) (hS' : SlI L S') (hl : L.length ≤ 500) : evP (evF cm (k + 600)) 11 [S, S'] = some (.b true) := by
  rw [evP_fun (m := c11) rfl _ _ rfl]
  have key : ∀ s I, iter (evCode (evF cm (k + 599)) (k + 599) 0 c11b0) (cleanN fg11) (k + 599) s = I → S11 S S' 0 s → ∃ T, I = some (.exit 0, (T, [])) ∧ T.length = 26 := by
    intro s I hI hs
    obtain ⟨s', h1, T, rfl, h3⟩ := iter_count (fun i s hi hs => step11 (k + 599) L S S' hS hS' hl i s hi hs) (fun s hs => last11 (k + 599) L S S' hS s hs) L.length 0 s (k + 599) (by omega) (by omega) hs
    exact ⟨T, hI.symm.trans h1, h3⟩
  simp -implicitDefEqProofs only [c11, hS.len, hS'.len, push_cast, Nat.reduceAdd, Nat.reduceMul, Nat.reduceSub, Nat.reduceLT, Nat.reduceLeDiff, Nat.reduceEqDiff, Nat.reducePow, Int.reduceToNat, Int.reduceLT, Int.reduceLE, Int.reduceNeg, Int.reduceEq, Int.reducePow, reduceIte, reduceCtorEq, Int.reduceMul, Int.reduceAdd, Int.reduceSub, Int.reduceMod, Int.reduceDiv, Int.reduceTDiv, Int.reduceTMod]
  generalize hI : iter _ _ _ _ = I
  obtain ⟨T, hI2, ht⟩ := key _ _ hI ⟨_, rfl, rfl, rfl, rfl, rfl⟩
  subst hI2
  rw [tl26 ht]
  simp -implicitDefEqProofs only [push_cast, Nat.reduceAdd, Nat.reduceMul, Nat.reduceSub, Nat.reduceLT, Nat.reduceLeDiff, Nat.reduceEqDiff, Nat.reducePow, Int.reduceToNat, Int.reduceLT, Int.reduceLE, Int.reduceNeg, Int.reduceEq, Int.reducePow, reduceIte, reduceCtorEq, Int.reduceMul, Int.reduceAdd, Int.reduceSub, Int.reduceMod, Int.reduceDiv, Int.reduceTDiv, Int.reduceTMod]
/-! ### counts -/
def S13 (L : List Int) (S : LV) (x : Int) (i : Nat) (s : St) : Prop := ∃ T, s = (T, []) ∧ T.length = 22 ∧ getT T 0 = S ∧ getT T 1 = .i x ∧ getT T 5 = .i ((L.take i).count x : Nat) ∧ getT T 6 = .i i
def fg13 : List Nat := [12, 11, 20, 19, 18, 17, 16, 15, 14, 13, 10, 9, 8, 7]
theorem count_take (L : List Int) (x : Int) (i : Nat) (hi : i < L.length) : (L.take (i + 1)).count x = (L.take i).count x + (if L.getD i 0 = x then 1 else 0) := by
  rw [List.take_add_one, List.getElem?_eq_getElem hi, List.count_append]
  simp [hi, List.count_singleton]
theorem step13 (K : Nat) (L : List Int) (S : LV) (hS : SlI L S) (hl : L.length ≤ 500) (x : Int) (i : Nat) (s : St) (hi : i < L.length) (hs : S13 L S x i s) :
    ∃ s', evCode (evF cm K) K 0 c13b0 (cleanN fg13 s) = some (.nrm, s') ∧ S13 L S x (i + 1) s' := by
  obtain ⟨T, rfl, ht, t0, t1, t5, t6⟩ := hs
  rw [tl22 ht]
  have g1 : (i : Int) < L.length := by omega
  have hx := hS.ix i (by omega) g1
  have hr := rd_ints L i hi
  have hr' := rd_ints' L i hi
  rw [Int.toNat_natCast] at hx
  have hc := count_take L x i hi
  have hb : (L.take i).count x ≤ i := by
    have := List.count_le_length (a := x) (l := L.take i)
    simp at this; omega
  have w1 : IntKind.i64.wrap ((i : Int) + 1) = (i : Int) + 1 := w64 _ (by omega) (by omega)
  have w2 : IntKind.i64.wrap (((L.take i).count x : Int) + 1) = ((L.take i).count x : Int) + 1 := w64 _ (by omega) (by omega)
  unfold S13
  rw [hc]
  generalize (L.take i).count x = cc at *
  by_cases h : L.getD i 0 = x
  · rw [if_pos h]
    simp -implicitDefEqProofs only [c13b0, fg13, t0, t1, t5, t6, hS.len, hx, hr, hr', h, g1, w1, w2, push_cast, Nat.reduceAdd, Nat.reduceMul, Nat.reduceSub, Nat.reduceLT, Nat.reduceLeDiff, Nat.reduceEqDiff, Nat.reducePow, Int.reduceToNat, Int.reduceLT, Int.reduceLE, Int.reduceNeg, Int.reduceEq, Int.reducePow, reduceIte, reduceCtorEq, Int.reduceMul, Int.reduceAdd, Int.reduceSub, Int.reduceMod, Int.reduceDiv, Int.reduceTDiv, Int.reduceTMod, iter_s]
    exact ⟨_, rfl, _, rfl, rfl, rfl, rfl, rfl, rfl⟩
  · rw [if_neg h]
    simp -implicitDefEqProofs only [c13b0, fg13, t0, t1, t5, t6, hS.len, hx, hr, hr', h, g1, w1, w2, push_cast, Nat.reduceAdd, Nat.reduceMul, Nat.reduceSub, Nat.reduceLT, Nat.reduceLeDiff, Nat.reduceEqDiff, Nat.reducePow, Int.reduceToNat, Int.reduceLT, Int.reduceLE, Int.reduceNeg, Int.reduceEq, Int.reducePow, reduceIte, reduceCtorEq, Int.reduceMul, Int.reduceAdd, Int.reduceSub, Int.reduceMod, Int.reduceDiv, Int.reduceTDiv, Int.reduceTMod, iter_s]
    exact ⟨_, rfl, _, rfl, rfl, rfl, rfl, rfl, rfl⟩
theorem last13 (K : Nat) (L : List Int) (S : LV) (hS : SlI L S) (x : Int) (s : St) (hs : S13 L S x L.length s) :
    ∃ s', evCode (evF cm K) K 0 c13b0 (cleanN fg13 s) = some (.exit 0, s') ∧ S13 L S x L.length s' := by
  obtain ⟨T, rfl, ht, t0, t1, t5, t6⟩ := hs
  rw [tl22 ht]
  have g1 : ¬ (L.length : Int) < L.length := by omega
  simp -implicitDefEqProofs only [c13b0, fg13, t0, t1, t5, t6, hS.len, g1, push_cast, Nat.reduceAdd, Nat.reduceMul, Nat.reduceSub, Nat.reduceLT, Nat.reduceLeDiff, Nat.reduceEqDiff, Nat.reducePow, Int.reduceToNat, Int.reduceLT, Int.reduceLE, Int.reduceNeg, Int.reduceEq, Int.reducePow, reduceIte, reduceCtorEq, Int.reduceMul, Int.reduceAdd, Int.reduceSub, Int.reduceMod, Int.reduceDiv, Int.reduceTDiv, Int.reduceTMod, iter_s]
  exact ⟨_, rfl, _, rfl, rfl, rfl, rfl, rfl, rfl⟩
theorem e13 (k : Nat) (L : List Int) (S : LV) (hS : SlI L S) (hl : L.length ≤ 500) (x : Int) : evP (evF cm (k + 600)) 13 [S, .i x] = some (.i (L.count x : Nat)) := by
  rw [evP_fun (m := c13) rfl _ _ rfl]
  have key : ∀ s I, iter (evCode (evF cm (k + 599)) (k + 599) 0 c13b0) (cleanN fg13) (k + 599) s = I → S13 L S x 0 s → ∃ s', I = some (.exit 0, s') ∧ S13 L S x L.length s' := by
    intro s I hI hs
    obtain ⟨s', h1, h2⟩ := iter_count (fun i s hi hs => step13 (k + 599) L S hS hl x i s hi hs) (fun s hs => last13 (k + 599) L S hS x s hs) L.length 0 s (k + 599) (by omega) (by omega) hs
    exact ⟨s', hI.symm.trans h1, h2⟩
  simp -implicitDefEqProofs only [c13, push_cast, Nat.reduceAdd, Nat.reduceMul, Nat.reduceSub, Nat.reduceLT, Nat.reduceLeDiff, Nat.reduceEqDiff, Nat.reducePow, Int.reduceToNat, Int.reduceLT, Int.reduceLE, Int.reduceNeg, Int.reduceEq, Int.reducePow, reduceIte, reduceCtorEq, Int.reduceMul, Int.reduceAdd, Int.reduceSub, Int.reduceMod, Int.reduceDiv, Int.reduceTDiv, Int.reduceTMod]
  generalize hI : iter _ _ _ _ = I
  obtain ⟨s', hI2, T, rfl, ht, t0, t1, t5, t6⟩ := key _ _ hI ⟨_, rfl, rfl, rfl, rfl, rfl, rfl⟩
  subst hI2
  rw [List.take_of_length_le (Nat.le_refl _)] at t5
  rw [tl22 ht]
  simp -implicitDefEqProofs only [t5, push_cast, Nat.reduceAdd, Nat.reduceMul, Nat.reduceSub, Nat.reduceLT, Nat.reduceLeDiff, Nat.reduceEqDiff, Nat.reducePow, Int.reduceToNat, Int.reduceLT, Int.reduceLE, Int.reduceNeg, Int.reduceEq, Int.reducePow, reduceIte, reduceCtorEq, Int.reduceMul, Int.reduceAdd, Int.reduceSub, Int.reduceMod, Int.reduceDiv, Int.reduceTDiv, Int.reduceTMod]
end Go.Proofs.Ytbmfmcimcdajcaa
