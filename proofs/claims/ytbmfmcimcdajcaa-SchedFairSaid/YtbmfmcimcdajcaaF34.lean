/- Small functions of threads' turns, as the evaluator answers. -/
import Derived.Test.YtbmfmcimcdajcaaA34
import Derived.Test.YtbmfmcimcdajcaaE34
set_option linter.unusedSimpArgs false
set_option linter.unusedVariables false
set_option maxRecDepth 100000
set_option maxHeartbeats 16000000
namespace Go.Proofs.Ytbmfmcimcdajcaa
open Go
theorem tlT {n : Nat} {T : List LV} (h : T.length = n) : T = (List.range n).map (getT T) := by subst h; exact tlist T
theorem tl18 {T : List LV} (h : T.length = 18) : T = [getT T 0, getT T 1, getT T 2, getT T 3, getT T 4, getT T 5, getT T 6, getT T 7, getT T 8, getT T 9, getT T 10, getT T 11, getT T 12, getT T 13, getT T 14, getT T 15, getT T 16, getT T 17] := tlT h
theorem tl19 {T : List LV} (h : T.length = 19) : T = [getT T 0, getT T 1, getT T 2, getT T 3, getT T 4, getT T 5, getT T 6, getT T 7, getT T 8, getT T 9, getT T 10, getT T 11, getT T 12, getT T 13, getT T 14, getT T 15, getT T 16, getT T 17, getT T 18] := tlT h
theorem tl22 {T : List LV} (h : T.length = 22) : T = [getT T 0, getT T 1, getT T 2, getT T 3, getT T 4, getT T 5, getT T 6, getT T 7, getT T 8, getT T 9, getT T 10, getT T 11, getT T 12, getT T 13, getT T 14, getT T 15, getT T 16, getT T 17, getT T 18, getT T 19, getT T 20, getT T 21] := tlT h
theorem tl25 {T : List LV} (h : T.length = 25) : T = [getT T 0, getT T 1, getT T 2, getT T 3, getT T 4, getT T 5, getT T 6, getT T 7, getT T 8, getT T 9, getT T 10, getT T 11, getT T 12, getT T 13, getT T 14, getT T 15, getT T 16, getT T 17, getT T 18, getT T 19, getT T 20, getT T 21, getT T 22, getT T 23, getT T 24] := tlT h
theorem tl26 {T : List LV} (h : T.length = 26) : T = [getT T 0, getT T 1, getT T 2, getT T 3, getT T 4, getT T 5, getT T 6, getT T 7, getT T 8, getT T 9, getT T 10, getT T 11, getT T 12, getT T 13, getT T 14, getT T 15, getT T 16, getT T 17, getT T 18, getT T 19, getT T 20, getT T 21, getT T 22, getT T 23, getT T 24, getT T 25] := tlT h
theorem tl54 {T : List LV} (h : T.length = 54) : T = [getT T 0, getT T 1, getT T 2, getT T 3, getT T 4, getT T 5, getT T 6, getT T 7, getT T 8, getT T 9, getT T 10, getT T 11, getT T 12, getT T 13, getT T 14, getT T 15, getT T 16, getT T 17, getT T 18, getT T 19, getT T 20, getT T 21, getT T 22, getT T 23, getT T 24, getT T 25, getT T 26, getT T 27, getT T 28, getT T 29, getT T 30, getT T 31, getT T 32, getT T 33, getT T 34, getT T 35, getT T 36, getT T 37, getT T 38, getT T 39, getT T 40, getT T 41, getT T 42, getT T 43, getT T 44, getT T 45, getT T 46, getT T 47, getT T 48, getT T 49, getT T 50, getT T 51, getT T 52, getT T 53] := tlT h
theorem e28 (k : Nat) (a : Int) : evP (evF cm (k + 1)) 28 [.i a] = some (.b false) := by
  rw [evP_fun (m := c28) rfl _ _ rfl]
  simp -implicitDefEqProofs only [c28, push_cast, Nat.reduceAdd, Nat.reduceMul, Nat.reduceSub, Nat.reduceLT, Nat.reduceLeDiff, Nat.reduceEqDiff, Nat.reducePow, Int.reduceToNat, Int.reduceLT, Int.reduceLE, Int.reduceNeg, Int.reduceEq, Int.reducePow, reduceIte, reduceCtorEq, Int.reduceMul, Int.reduceAdd, Int.reduceSub, Int.reduceMod, Int.reduceDiv, Int.reduceTDiv, Int.reduceTMod, iter_s]
theorem e27 (k : Nat) (a : Int) : evP (evF cm (k + 1)) 27 [.i a] = some (.b false) := by
  rw [evP_fun (m := c27) rfl _ _ rfl]
  simp -implicitDefEqProofs only [c27, push_cast, Nat.reduceAdd, Nat.reduceMul, Nat.reduceSub, Nat.reduceLT, Nat.reduceLeDiff, Nat.reduceEqDiff, Nat.reducePow, Int.reduceToNat, Int.reduceLT, Int.reduceLE, Int.reduceNeg, Int.reduceEq, Int.reducePow, reduceIte, reduceCtorEq, Int.reduceMul, Int.reduceAdd, Int.reduceSub, Int.reduceMod, Int.reduceDiv, Int.reduceTDiv, Int.reduceTMod, iter_s]
theorem e26 (k : Nat) (a b : Int) : evP (evF cm (k + 2)) 26 [.i a, .i b] = some (.b (decide (a < b))) := by
  rw [evP_fun (m := c26) rfl _ _ rfl]
  simp -implicitDefEqProofs only [c26, e28, push_cast, Nat.reduceAdd, Nat.reduceMul, Nat.reduceSub, Nat.reduceLT, Nat.reduceLeDiff, Nat.reduceEqDiff, Nat.reducePow, Int.reduceToNat, Int.reduceLT, Int.reduceLE, Int.reduceNeg, Int.reduceEq, Int.reducePow, reduceIte, reduceCtorEq, Int.reduceMul, Int.reduceAdd, Int.reduceSub, Int.reduceMod, Int.reduceDiv, Int.reduceTDiv, Int.reduceTMod, iter_s]
theorem e14 (k : Nat) (a b : Int) : evP (evF cm (k + 1)) 14 [.i a, .i b] = some (.i (if b < a then a else b)) := by
  rw [evP_fun (m := c14) rfl _ _ rfl]
  simp -implicitDefEqProofs only [c14, push_cast, Nat.reduceAdd, Nat.reduceMul, Nat.reduceSub, Nat.reduceLT, Nat.reduceLeDiff, Nat.reduceEqDiff, Nat.reducePow, Int.reduceToNat, Int.reduceLT, Int.reduceLE, Int.reduceNeg, Int.reduceEq, Int.reducePow, reduceIte, reduceCtorEq, Int.reduceMul, Int.reduceAdd, Int.reduceSub, Int.reduceMod, Int.reduceDiv, Int.reduceTDiv, Int.reduceTMod, iter_s]
  split <;> rfl
theorem e21 (k : Nat) (a b c : Int) : evP (evF cm (k + 1)) 21 [.i a, .i b, .i c] = some (.i (if a < b then b else if c < a then c else a)) := by
  rw [evP_fun (m := c21) rfl _ _ rfl]
  simp -implicitDefEqProofs only [c21, push_cast, Nat.reduceAdd, Nat.reduceMul, Nat.reduceSub, Nat.reduceLT, Nat.reduceLeDiff, Nat.reduceEqDiff, Nat.reducePow, Int.reduceToNat, Int.reduceLT, Int.reduceLE, Int.reduceNeg, Int.reduceEq, Int.reducePow, reduceIte, reduceCtorEq, Int.reduceMul, Int.reduceAdd, Int.reduceSub, Int.reduceMod, Int.reduceDiv, Int.reduceTDiv, Int.reduceTMod, iter_s]
  (repeat' split) <;> rfl
theorem e24 (k : Nat) (a b : Int) (ha : -9223372036854775808 ≤ a ∧ a ≤ 9223372036854775807) (hb : 0 < b) (hb' : b ≤ 9223372036854775807) : evP (evF cm (k + 1)) 24 [.i a, .i b] = some (.tup [.i (a % b), .i 0]) := by
  rw [evP_fun (m := c24) rfl _ _ rfl]
  have g0 : ¬ b < 1 := by omega
  have g1 : ¬ b = 0 := by omega
  by_cases h : a.tmod b < 0
  · have e : a.tmod b + b = a % b := by
      have := Int.tmod_eq_emod (a := a) (b := b)
      have h2 := Int.emod_lt_of_pos a hb
      have h3 := Int.emod_nonneg a g1
      split at this <;> omega
    have w : IntKind.i64.wrap (a.tmod b + b) = a.tmod b + b := by
      have := Int.emod_lt_of_pos a hb
      have := Int.emod_nonneg a g1
      exact w64 _ (by omega) (by omega)
    simp -implicitDefEqProofs only [c24, g0, g1, h, w, push_cast, Nat.reduceAdd, Nat.reduceMul, Nat.reduceSub, Nat.reduceLT, Nat.reduceLeDiff, Nat.reduceEqDiff, Nat.reducePow, Int.reduceToNat, Int.reduceLT, Int.reduceLE, Int.reduceNeg, Int.reduceEq, Int.reducePow, reduceIte, reduceCtorEq, Int.reduceMul, Int.reduceAdd, Int.reduceSub, Int.reduceMod, Int.reduceDiv, Int.reduceTDiv, Int.reduceTMod, iter_s]
    rw [e]
  · have e : a.tmod b = a % b := by
      have := Int.tmod_eq_emod (a := a) (b := b)
      have h2 := Int.emod_lt_of_pos a hb
      split at this <;> omega
    simp -implicitDefEqProofs only [c24, g0, g1, h, push_cast, Nat.reduceAdd, Nat.reduceMul, Nat.reduceSub, Nat.reduceLT, Nat.reduceLeDiff, Nat.reduceEqDiff, Nat.reducePow, Int.reduceToNat, Int.reduceLT, Int.reduceLE, Int.reduceNeg, Int.reduceEq, Int.reducePow, reduceIte, reduceCtorEq, Int.reduceMul, Int.reduceAdd, Int.reduceSub, Int.reduceMod, Int.reduceDiv, Int.reduceTDiv, Int.reduceTMod, iter_s]
    rw [e]
/-! ### how many are live -/
def S12 (L : List Int) (S : LV) (i : Nat) (s : St) : Prop := ∃ T, s = (T, []) ∧ T.length = 19 ∧ getT T 0 = S ∧ getT T 3 = .i (cnt L i) ∧ getT T 4 = .i i
def fg12 : List Nat := [10, 9, 17, 16, 15, 14, 13, 12, 11, 8, 7, 6, 5]
theorem step12 (K : Nat) (L : List Int) (S : LV) (hS : SlI L S) (hl : L.length ≤ 12) (i : Nat) (s : St) (hi : i < L.length) (hs : S12 L S i s) :
    ∃ s', evCode (evF cm K) K 0 c12b0 (cleanN fg12 s) = some (.nrm, s') ∧ S12 L S (i + 1) s' := by
  obtain ⟨T, rfl, ht, t0, t3, t4⟩ := hs
  rw [tl19 ht]
  have g1 : (i : Int) < L.length := by omega
  have hx := hS.ix i (by omega) g1
  have hr := rd_ints L i hi
  have hr' := rd_ints' L i hi
  rw [Int.toNat_natCast] at hx
  have hc := cnt_le L i
  have hcs := cnt_succ L i
  have w1 : IntKind.i64.wrap ((i : Int) + 1) = ((i + 1 : Nat) : Int) := by rw [w64 _ (by omega) (by omega)]; rfl
  have w2 : IntKind.i64.wrap ((cnt L i : Int) + 1) = ((cnt L i + 1 : Nat) : Int) := by rw [w64 _ (by omega) (by omega)]; rfl
  unfold lvb at hcs
  by_cases h : 0 < L.getD i 0
  · rw [decide_eq_true h, if_pos rfl] at hcs
    simp -implicitDefEqProofs only [c12b0, fg12, t0, t3, t4, hS.len, hx, hr, hr', h, g1, w1, w2, push_cast, Nat.reduceAdd, Nat.reduceMul, Nat.reduceSub, Nat.reduceLT, Nat.reduceLeDiff, Nat.reduceEqDiff, Nat.reducePow, Int.reduceToNat, Int.reduceLT, Int.reduceLE, Int.reduceNeg, Int.reduceEq, Int.reducePow, reduceIte, reduceCtorEq, Int.reduceMul, Int.reduceAdd, Int.reduceSub, Int.reduceMod, Int.reduceDiv, Int.reduceTDiv, Int.reduceTMod, iter_s]
    exact ⟨_, rfl, _, rfl, rfl, rfl, by rw [hcs]; rfl, rfl⟩
  · rw [decide_eq_false h] at hcs
    simp -implicitDefEqProofs only [c12b0, fg12, t0, t3, t4, hS.len, hx, hr, hr', h, g1, w1, w2, push_cast, Nat.reduceAdd, Nat.reduceMul, Nat.reduceSub, Nat.reduceLT, Nat.reduceLeDiff, Nat.reduceEqDiff, Nat.reducePow, Int.reduceToNat, Int.reduceLT, Int.reduceLE, Int.reduceNeg, Int.reduceEq, Int.reducePow, reduceIte, reduceCtorEq, Int.reduceMul, Int.reduceAdd, Int.reduceSub, Int.reduceMod, Int.reduceDiv, Int.reduceTDiv, Int.reduceTMod, iter_s]
    exact ⟨_, rfl, _, rfl, rfl, rfl, by rw [hcs]; rfl, rfl⟩
theorem last12 (K : Nat) (L : List Int) (S : LV) (hS : SlI L S) (s : St) (hs : S12 L S L.length s) :
    ∃ s', evCode (evF cm K) K 0 c12b0 (cleanN fg12 s) = some (.exit 0, s') ∧ S12 L S L.length s' := by
  obtain ⟨T, rfl, ht, t0, t3, t4⟩ := hs
  rw [tl19 ht]
  have g1 : ¬ (L.length : Int) < L.length := by omega
  simp -implicitDefEqProofs only [c12b0, fg12, t0, t3, t4, hS.len, g1, push_cast, Nat.reduceAdd, Nat.reduceMul, Nat.reduceSub, Nat.reduceLT, Nat.reduceLeDiff, Nat.reduceEqDiff, Nat.reducePow, Int.reduceToNat, Int.reduceLT, Int.reduceLE, Int.reduceNeg, Int.reduceEq, Int.reducePow, reduceIte, reduceCtorEq, Int.reduceMul, Int.reduceAdd, Int.reduceSub, Int.reduceMod, Int.reduceDiv, Int.reduceTDiv, Int.reduceTMod, iter_s]
  exact ⟨_, rfl, _, rfl, rfl, rfl, rfl, rfl⟩
theorem e12 (k : Nat) (L : List Int) (S : LV) (hS : SlI L S) (hl : L.length ≤ 12) : evP (evF cm (k + 20)) 12 [S] = some (.i ((liv L).length : Nat)) := by
  rw [evP_fun (m := c12) rfl _ _ rfl]
  have key : ∀ s I, iter (evCode (evF cm (k + 19)) (k + 19) 0 c12b0) (cleanN fg12) (k + 19) s = I → S12 L S 0 s → ∃ T, I = some (.exit 0, (T, [])) ∧ T.length = 19 ∧ getT T 3 = .i (cnt L L.length) := by
    intro s I hI hs
    obtain ⟨s', h1, T, rfl, h3, _, h4, _⟩ := iter_count (fun i s hi hs => step12 (k + 19) L S hS hl i s hi hs) (fun s hs => last12 (k + 19) L S hS s hs) L.length 0 s (k + 19) (by omega) (by omega) hs
    exact ⟨T, hI.symm.trans h1, h3, h4⟩
  simp -implicitDefEqProofs only [c12, push_cast, Nat.reduceAdd, Nat.reduceMul, Nat.reduceSub, Nat.reduceLT, Nat.reduceLeDiff, Nat.reduceEqDiff, Nat.reducePow, Int.reduceToNat, Int.reduceLT, Int.reduceLE, Int.reduceNeg, Int.reduceEq, Int.reducePow, reduceIte, reduceCtorEq, Int.reduceMul, Int.reduceAdd, Int.reduceSub, Int.reduceMod, Int.reduceDiv, Int.reduceTDiv, Int.reduceTMod]
  generalize hI : iter _ _ _ _ = I
  obtain ⟨T, hI2, ht, t3⟩ := key _ _ hI ⟨_, rfl, rfl, rfl, rfl, rfl⟩
  subst hI2
  rw [tl19 ht]
  simp -implicitDefEqProofs only [t3, push_cast, Nat.reduceAdd, Nat.reduceMul, Nat.reduceSub, Nat.reduceLT, Nat.reduceLeDiff, Nat.reduceEqDiff, Nat.reducePow, Int.reduceToNat, Int.reduceLT, Int.reduceLE, Int.reduceNeg, Int.reduceEq, Int.reducePow, reduceIte, reduceCtorEq, Int.reduceMul, Int.reduceAdd, Int.reduceSub, Int.reduceMod, Int.reduceDiv, Int.reduceTDiv, Int.reduceTMod]
  rfl
/-! ### the n-th live one -/
def S18 (L : List Int) (S : LV) (m t : Nat) (i : Nat) (s : St) : Prop := ∃ T, s = (T, []) ∧ T.length = 22 ∧ getT T 0 = S ∧ getT T 1 = .i ((m - cnt L i : Nat) : Int) ∧ getT T 5 = .i i
def fg18 : List Nat := [11, 10, 21, 20, 4, 19, 18, 17, 16, 15, 14, 13, 12, 9, 8, 7, 6]
theorem step18 (K : Nat) (L : List Int) (S : LV) (hS : SlI L S) (hl : L.length ≤ 12) (m t : Nat) (ht1 : 0 < L.getD t 0) (ht2 : t < L.length) (ht3 : cnt L t = m) (i : Nat) (s : St) (hi : i < t) (hs : S18 L S m t i s) :
    ∃ s', evCode (evF cm K) K 0 c18b0 (cleanN fg18 s) = some (.nrm, s') ∧ S18 L S m t (i + 1) s' := by
  obtain ⟨T, rfl, ht, t0, t1, t5⟩ := hs
  rw [tl22 ht]
  have g1 : (i : Int) < L.length := by omega
  have hx := hS.ix i (by omega) g1
  have hr := rd_ints L i (by omega)
  have hr' := rd_ints' L i (by omega)
  rw [Int.toNat_natCast] at hx
  have hc := cnt_le L i
  have hct := cnt_le L t
  have hcs := cnt_succ L i
  have hmono := cnt_mono L (show i + 1 ≤ t by omega)
  have w1 : IntKind.i64.wrap ((i : Int) + 1) = ((i + 1 : Nat) : Int) := by rw [w64 _ (by omega) (by omega)]; rfl
  unfold lvb at hcs
  by_cases h : 0 < L.getD i 0
  · rw [decide_eq_true h, if_pos rfl] at hcs
    have g2 : ¬ (((m - cnt L i : Nat) : Int) = 0) := by omega
    have w2 : IntKind.i64.wrap (((m - cnt L i : Nat) : Int) - 1) = ((m - cnt L (i + 1) : Nat) : Int) := by rw [w64 _ (by omega) (by omega)]; omega
    simp -implicitDefEqProofs only [c18b0, fg18, t0, t1, t5, hS.len, hx, hr, hr', h, g1, g2, w1, w2, push_cast, Nat.reduceAdd, Nat.reduceMul, Nat.reduceSub, Nat.reduceLT, Nat.reduceLeDiff, Nat.reduceEqDiff, Nat.reducePow, Int.reduceToNat, Int.reduceLT, Int.reduceLE, Int.reduceNeg, Int.reduceEq, Int.reducePow, reduceIte, reduceCtorEq, Int.reduceMul, Int.reduceAdd, Int.reduceSub, Int.reduceMod, Int.reduceDiv, Int.reduceTDiv, Int.reduceTMod, iter_s]
    exact ⟨_, rfl, _, rfl, rfl, rfl, rfl, rfl⟩
  · rw [decide_eq_false h] at hcs
    simp -implicitDefEqProofs only [c18b0, fg18, t0, t1, t5, hS.len, hx, hr, hr', h, g1, w1, push_cast, Nat.reduceAdd, Nat.reduceMul, Nat.reduceSub, Nat.reduceLT, Nat.reduceLeDiff, Nat.reduceEqDiff, Nat.reducePow, Int.reduceToNat, Int.reduceLT, Int.reduceLE, Int.reduceNeg, Int.reduceEq, Int.reducePow, reduceIte, reduceCtorEq, Int.reduceMul, Int.reduceAdd, Int.reduceSub, Int.reduceMod, Int.reduceDiv, Int.reduceTDiv, Int.reduceTMod, iter_s]
    exact ⟨_, rfl, _, rfl, rfl, rfl, by rw [hcs]; rfl, rfl⟩
theorem last18 (K : Nat) (L : List Int) (S : LV) (hS : SlI L S) (hl : L.length ≤ 12) (m t : Nat) (ht1 : 0 < L.getD t 0) (ht2 : t < L.length) (ht3 : cnt L t = m) (s : St) (hs : S18 L S m t t s) :
    ∃ s', evCode (evF cm K) K 0 c18b0 (cleanN fg18 s) = some (.ret, s') ∧ ∃ T, s' = (T, []) ∧ T.length = 22 ∧ getT T 4 = .i t := by
  obtain ⟨T, rfl, ht, t0, t1, t5⟩ := hs
  rw [tl22 ht]
  have g1 : (t : Int) < L.length := by omega
  have hx := hS.ix t (by omega) g1
  have hr := rd_ints L t (by omega)
  have hr' := rd_ints' L t (by omega)
  rw [Int.toNat_natCast] at hx
  have g2 : (((m - cnt L t : Nat) : Int) = 0) := by omega
  simp -implicitDefEqProofs only [c18b0, fg18, t0, t1, t5, hS.len, hx, hr, hr', ht1, g1, g2, push_cast, Nat.reduceAdd, Nat.reduceMul, Nat.reduceSub, Nat.reduceLT, Nat.reduceLeDiff, Nat.reduceEqDiff, Nat.reducePow, Int.reduceToNat, Int.reduceLT, Int.reduceLE, Int.reduceNeg, Int.reduceEq, Int.reducePow, reduceIte, reduceCtorEq, Int.reduceMul, Int.reduceAdd, Int.reduceSub, Int.reduceMod, Int.reduceDiv, Int.reduceTDiv, Int.reduceTMod, iter_s]
  exact ⟨_, rfl, _, rfl, rfl, rfl⟩
/-- A loop that leaves by a return behind N rounds. -/
theorem iter_ret {f : St → Option (Ex × St)} {cl : St → St} {S : Nat → St → Prop} {R : St → Prop} {N : Nat} (step : ∀ i s, i < N → S i s → ∃ s', f (cl s) = some (.nrm, s') ∧ S (i + 1) s') (last : ∀ s, S N s → ∃ s', f (cl s) = some (.ret, s') ∧ R s') :
    ∀ (d i : Nat) (s : St) (n : Nat), i + d = N → d < n → S i s → ∃ s', iter f cl n s = some (.ret, s') ∧ R s'
  | 0, i, s, n + 1, hi, _, hs => by
    obtain rfl : i = N := by omega
    obtain ⟨s', h1, h2⟩ := last s hs
    exact ⟨s', by simp only [iter, h1], h2⟩
  | d + 1, i, s, n + 1, hi, hn, hs => by
    obtain ⟨s', h1, h2⟩ := step i s (by omega) hs
    obtain ⟨s'', h3, h4⟩ := iter_ret step last d (i + 1) s' n (by omega) (by omega) h2
    exact ⟨s'', by simp only [iter, h1]; exact h3, h4⟩
theorem e18 (k : Nat) (L : List Int) (S : LV) (hS : SlI L S) (hl : L.length ≤ 12) (m : Nat) (hm : m < (liv L).length) : evP (evF cm (k + 20)) 18 [S, .i m] = some (.i ((liv L).getD m 0 : Nat)) := by
  rw [evP_fun (m := c18) rfl _ _ rfl]
  obtain ⟨t, ht⟩ : ∃ t, (liv L)[m]? = some t := ⟨_, List.getElem?_eq_getElem hm⟩
  obtain ⟨h1, h2, h3⟩ := liv_get ht
  have key : ∀ s I, iter (evCode (evF cm (k + 19)) (k + 19) 0 c18b0) (cleanN fg18) (k + 19) s = I → S18 L S m t 0 s → ∃ T, I = some (.ret, (T, [])) ∧ T.length = 22 ∧ getT T 4 = .i t := by
    intro s I hI hs
    obtain ⟨s', q1, T, rfl, q3, q4⟩ := iter_ret (fun i s hi hs => step18 (k + 19) L S hS hl m t h1 h2 h3 i s hi hs) (fun s hs => last18 (k + 19) L S hS hl m t h1 h2 h3 s hs) t 0 s (k + 19) (by omega) (by omega) hs
    exact ⟨T, hI.symm.trans q1, q3, q4⟩
  simp -implicitDefEqProofs only [c18, push_cast, Nat.reduceAdd, Nat.reduceMul, Nat.reduceSub, Nat.reduceLT, Nat.reduceLeDiff, Nat.reduceEqDiff, Nat.reducePow, Int.reduceToNat, Int.reduceLT, Int.reduceLE, Int.reduceNeg, Int.reduceEq, Int.reducePow, reduceIte, reduceCtorEq, Int.reduceMul, Int.reduceAdd, Int.reduceSub, Int.reduceMod, Int.reduceDiv, Int.reduceTDiv, Int.reduceTMod]
  generalize hI : iter _ _ _ _ = I
  obtain ⟨T, hI2, ht, t3⟩ := key _ _ hI ⟨_, rfl, rfl, rfl, rfl, rfl⟩
  subst hI2
  rw [tl22 ht]
  simp -implicitDefEqProofs only [t3, push_cast, Nat.reduceAdd, Nat.reduceMul, Nat.reduceSub, Nat.reduceLT, Nat.reduceLeDiff, Nat.reduceEqDiff, Nat.reducePow, Int.reduceToNat, Int.reduceLT, Int.reduceLE, Int.reduceNeg, Int.reduceEq, Int.reducePow, reduceIte, reduceCtorEq, Int.reduceMul, Int.reduceAdd, Int.reduceSub, Int.reduceMod, Int.reduceDiv, Int.reduceTDiv, Int.reduceTMod]
  rename_i hh
  simp [hh]
end Go.Proofs.Ytbmfmcimcdajcaa
