/- More small functions of threads' turns, as the evaluator answers. -/
import Derived.Test.YtbmfmcimcdajcaaF34
set_option linter.unusedSimpArgs false
set_option linter.unusedVariables false
set_option maxRecDepth 100000
set_option maxHeartbeats 16000000
namespace Go.Proofs.Ytbmfmcimcdajcaa
open Go
theorem e19 (k : Nat) (a b : Int) (ha : -9223372036854775808 ≤ a ∧ a ≤ 9223372036854775807) (hb : 0 < b) (hb' : b ≤ 12) : evP (evF cm (k + 1)) 19 [.i a, .i b] = some (.i (a / b)) := by
  rw [evP_fun (m := c19) rfl _ _ rfl]
  have g0 : ¬ b = -1 := by omega
  have g1 : ¬ b = 0 := by omega
  have g2 : ¬ b < 0 := by omega
  have h2 := Int.emod_lt_of_pos a hb
  have h3 := Int.emod_nonneg a g1
  have h4 := Int.mul_ediv_add_emod a b
  have ht := Int.tmod_eq_emod (a := a) (b := b)
  have htd := Int.tdiv_mul_add_tmod a b
  have hab : a.tdiv b * b = a - a.tmod b := by omega
  have hq1 : -9223372036854775808 ≤ a.tdiv b ∧ a.tdiv b ≤ 9223372036854775807 := by
    have := Int.natAbs_tdiv_le_natAbs a b
    constructor <;> by_cases hb1 : b = 1
    · subst hb1; simp; omega
    · have : a.tdiv b * b ≥ -9223372036854775808 - 12 := by rw [hab]; split at ht <;> omega
      have h5 : -9223372036854775808 ≤ a.tdiv b := by
        by_cases hh : a.tdiv b < -9223372036854775808
        · exfalso
          have : a.tdiv b * b ≤ (-9223372036854775809) * b := Int.mul_le_mul_of_nonneg_right (by omega) (by omega)
          omega
        · omega
      exact h5
    · subst hb1; simp; omega
    · by_cases hh : 9223372036854775807 < a.tdiv b
      · exfalso
        have : (9223372036854775808) * b ≤ a.tdiv b * b := Int.mul_le_mul_of_nonneg_right (by omega) (by omega)
        split at ht <;> omega
      · omega
  have wq : IntKind.i64.wrap (a.tdiv b) = a.tdiv b := w64 _ hq1.1 hq1.2
  have wm : IntKind.i64.wrap (a - IntKind.i64.wrap (a.tdiv b * b)) = a.tmod b := by
    rw [hab]
    generalize a.tmod b = r at *
    rw [IntKind.wrap_i64, IntKind.wrap_i64]
    split at ht <;> omega
  by_cases h : a.tmod b < 0
  · have e : a.tdiv b - 1 = a / b := by
      have h6 : a % b = a.tmod b + b := by split at ht <;> omega
      have h7 : b * (a / b) = b * (a.tdiv b - 1) := by
        rw [Int.mul_sub, Int.mul_one, Int.mul_comm b (a.tdiv b), hab]; omega
      exact (Int.eq_of_mul_eq_mul_left g1 h7).symm
    have w : IntKind.i64.wrap (a.tdiv b - 1) = a.tdiv b - 1 := by
      rw [e]
      by_cases hb1 : b = 1
      · subst hb1; simp at h
      · have : b * (a / b) ≥ -9223372036854775808 - 12 := by omega
        have h5 : -9223372036854775808 ≤ a / b := by
          by_cases hh : a / b < -9223372036854775808
          · exfalso
            have : b * (a / b) ≤ b * (-9223372036854775809) := Int.mul_le_mul_of_nonneg_left (by omega) (by omega)
            omega
          · omega
        exact w64 _ h5 (by omega)
    simp -implicitDefEqProofs only [c19, g0, g1, g2, h, hb, wq, wm, w, push_cast, Nat.reduceAdd, Nat.reduceMul, Nat.reduceSub, Nat.reduceLT, Nat.reduceLeDiff, Nat.reduceEqDiff, Nat.reducePow, Int.reduceToNat, Int.reduceLT, Int.reduceLE, Int.reduceNeg, Int.reduceEq, Int.reducePow, reduceIte, reduceCtorEq, Int.reduceMul, Int.reduceAdd, Int.reduceSub, Int.reduceMod, Int.reduceDiv, Int.reduceTDiv, Int.reduceTMod, iter_s]
    rw [e]
  · have e : a.tdiv b = a / b := by
      have h6 : a % b = a.tmod b := by split at ht <;> omega
      have h7 : b * (a / b) = b * (a.tdiv b) := by
        rw [Int.mul_comm b (a.tdiv b), hab]; omega
      exact (Int.eq_of_mul_eq_mul_left g1 h7).symm
    simp -implicitDefEqProofs only [c19, g0, g1, g2, h, hb, wq, wm, push_cast, Nat.reduceAdd, Nat.reduceMul, Nat.reduceSub, Nat.reduceLT, Nat.reduceLeDiff, Nat.reduceEqDiff, Nat.reducePow, Int.reduceToNat, Int.reduceLT, Int.reduceLE, Int.reduceNeg, Int.reduceEq, Int.reducePow, reduceIte, reduceCtorEq, Int.reduceMul, Int.reduceAdd, Int.reduceSub, Int.reduceMod, Int.reduceDiv, Int.reduceTDiv, Int.reduceTMod, iter_s]
    rw [e]
theorem modw (p n : Int) (hp : -9223372036854775808 ≤ p ∧ p ≤ 9223372036854775807) (hn : 0 < n) (hn' : n ≤ 12) : IntKind.i64.wrap (p - IntKind.i64.wrap (n * (p / n))) = p % n := by
  have h2 := Int.emod_lt_of_pos p hn
  have h3 := Int.emod_nonneg p (show n ≠ 0 by omega)
  have h4 := Int.mul_ediv_add_emod p n
  generalize n * (p / n) = x at *
  rw [IntKind.wrap_i64, IntKind.wrap_i64]
  omega
/-! ### the first live one behind one, around -/
def S20 (L : List Int) (S : LV) (last : Int) (i : Nat) (s : St) : Prop := ∃ T, s = (T, []) ∧ T.length = 25 ∧ getT T 0 = S ∧ getT T 1 = .i last ∧ getT T 5 = .i ((i : Int) + 1)
def fg20 : List Nat := [12, 11, 4, 24, 23, 22, 21, 20, 19, 18, 17, 16, 15, 14, 13, 10, 9, 8, 7]
theorem step20 (K0 : Nat) (L : List Int) (S : LV) (hS : SlI L S) (hl : L.length ≤ 12) (last : Int) (h1 : -1 ≤ last) (h2 : last < L.length) (K : Nat) (hK : K ≤ L.length) (hm : ∀ j : Nat, 1 ≤ j → j < K → ¬ 0 < L.getD ((last + j) % (L.length : Int)).toNat 0) (i : Nat) (s : St) (hi : i + 1 < K) (hs : S20 L S last i s) :
    ∃ s', evCode (evF cm K0) K0 0 c20b0 (cleanN fg20 s) = some (.nrm, s') ∧ S20 L S last (i + 1) s' := by
  obtain ⟨T, rfl, ht, t0, t1, t5⟩ := hs
  rw [tl25 ht]
  have g0 : ¬ (L.length : Int) = 0 := by omega
  have g1 : ((i : Int) + 1) ≤ L.length := by omega
  have hq1 := Int.emod_nonneg (last + ((i : Int) + 1)) g0
  have hq2 := Int.emod_lt_of_pos (last + ((i : Int) + 1)) (show (0 : Int) < L.length by omega)
  have w1 : IntKind.i64.wrap (last + ((i : Int) + 1)) = last + ((i : Int) + 1) := w64 _ (by omega) (by omega)
  have w2 : IntKind.i64.wrap ((i : Int) + 1 + 1) = (i : Int) + 1 + 1 := w64 _ (by omega) (by omega)
  have hmm := hm (i + 1) (by omega) hi
  rw [show ((i + 1 : Nat) : Int) = (i : Int) + 1 from rfl] at hmm
  have tm : (last + ((i : Int) + 1)).tmod (L.length : Int) = (last + ((i : Int) + 1)) % (L.length : Int) := Int.tmod_eq_emod_of_nonneg (by omega)
  generalize (last + ((i : Int) + 1)) % (L.length : Int) = q at *
  have hx := hS.ix q hq1 hq2
  have hr := rd_ints L q.toNat (by omega)
  have hr' := rd_ints' L q.toNat (by omega)
  simp -implicitDefEqProofs only [c20b0, fg20, t0, t1, t5, hS.len, hx, hr, hr', hmm, g0, g1, w1, w2, tm, push_cast, Nat.reduceAdd, Nat.reduceMul, Nat.reduceSub, Nat.reduceLT, Nat.reduceLeDiff, Nat.reduceEqDiff, Nat.reducePow, Int.reduceToNat, Int.reduceLT, Int.reduceLE, Int.reduceNeg, Int.reduceEq, Int.reducePow, reduceIte, reduceCtorEq, Int.reduceMul, Int.reduceAdd, Int.reduceSub, Int.reduceMod, Int.reduceDiv, Int.reduceTDiv, Int.reduceTMod, iter_s]
  exact ⟨_, rfl, _, rfl, rfl, rfl, rfl, rfl⟩
theorem last20 (K0 : Nat) (L : List Int) (S : LV) (hS : SlI L S) (hl : L.length ≤ 12) (last : Int) (h1 : -1 ≤ last) (h2 : last < L.length) (K t : Nat) (hK0 : 1 ≤ K) (hK : K ≤ L.length) (ht : ((last + K) % (L.length : Int)) = (t : Int)) (ht1 : t < L.length) (ht2 : 0 < L.getD t 0) (s : St) (hs : S20 L S last (K - 1) s) :
    ∃ s', evCode (evF cm K0) K0 0 c20b0 (cleanN fg20 s) = some (.ret, s') ∧ ∃ T, s' = (T, []) ∧ T.length = 25 ∧ getT T 4 = .i t := by
  obtain ⟨T, rfl, hT, t0, t1, t5⟩ := hs
  rw [tl25 hT]
  rw [show ((K - 1 : Nat) : Int) + 1 = (K : Int) by omega] at t5
  have g0 : ¬ (L.length : Int) = 0 := by omega
  have g1 : (K : Int) ≤ L.length := by omega
  have w1 : IntKind.i64.wrap (last + (K : Int)) = last + (K : Int) := w64 _ (by omega) (by omega)
  have tm : (last + (K : Int)).tmod (L.length : Int) = (t : Int) := by rw [Int.tmod_eq_emod_of_nonneg (by omega), ht]
  have hx := hS.ix t (by omega) (by omega)
  have hr := rd_ints L t (by omega)
  have hr' := rd_ints' L t (by omega)
  rw [Int.toNat_natCast] at hx
  simp -implicitDefEqProofs only [c20b0, fg20, t0, t1, t5, hS.len, hx, hr, hr', ht2, g0, g1, w1, tm, push_cast, Nat.reduceAdd, Nat.reduceMul, Nat.reduceSub, Nat.reduceLT, Nat.reduceLeDiff, Nat.reduceEqDiff, Nat.reducePow, Int.reduceToNat, Int.reduceLT, Int.reduceLE, Int.reduceNeg, Int.reduceEq, Int.reducePow, reduceIte, reduceCtorEq, Int.reduceMul, Int.reduceAdd, Int.reduceSub, Int.reduceMod, Int.reduceDiv, Int.reduceTDiv, Int.reduceTMod, iter_s]
  exact ⟨_, rfl, _, rfl, rfl, rfl⟩
theorem e20 (k : Nat) (L : List Int) (S : LV) (hS : SlI L S) (hl : L.length ≤ 12) (last : Int) (h1 : -1 ≤ last) (h2 : last < L.length) (hv : liv L ≠ []) : evP (evF cm (k + 20)) 20 [S, .i last] = some (.i ((ring L last).headD 0 : Nat)) := by
  rw [evP_fun (m := c20) rfl _ _ rfl]
  obtain ⟨K, t, q1, q2, q3, q4, q5, q6, q7⟩ := after_spec last hv h1 h2
  have key : ∀ s I, iter (evCode (evF cm (k + 19)) (k + 19) 0 c20b0) (cleanN fg20) (k + 19) s = I → S20 L S last 0 s → ∃ T, I = some (.ret, (T, [])) ∧ T.length = 25 ∧ getT T 4 = .i t := by
    intro s I hI hs
    obtain ⟨s', q1, T, rfl, q3, q4⟩ := iter_ret (fun i s hi hs => step20 (k + 19) L S hS hl last h1 h2 K q3 q7 i s (by omega) hs) (fun s hs => last20 (k + 19) L S hS hl last h1 h2 K t q2 q3 q4 q5 q6 s hs) (K - 1) 0 s (k + 19) (by omega) (by omega) hs
    exact ⟨T, hI.symm.trans q1, q3, q4⟩
  simp -implicitDefEqProofs only [c20, push_cast, Nat.reduceAdd, Nat.reduceMul, Nat.reduceSub, Nat.reduceLT, Nat.reduceLeDiff, Nat.reduceEqDiff, Nat.reducePow, Int.reduceToNat, Int.reduceLT, Int.reduceLE, Int.reduceNeg, Int.reduceEq, Int.reducePow, reduceIte, reduceCtorEq, Int.reduceMul, Int.reduceAdd, Int.reduceSub, Int.reduceMod, Int.reduceDiv, Int.reduceTDiv, Int.reduceTMod]
  generalize hI : iter _ _ _ _ = I
  obtain ⟨T, hI2, ht, t3⟩ := key _ _ hI ⟨_, rfl, rfl, rfl, rfl, rfl⟩
  subst hI2
  rw [tl25 ht]
  simp -implicitDefEqProofs only [t3, push_cast, Nat.reduceAdd, Nat.reduceMul, Nat.reduceSub, Nat.reduceLT, Nat.reduceLeDiff, Nat.reduceEqDiff, Nat.reducePow, Int.reduceToNat, Int.reduceLT, Int.reduceLE, Int.reduceNeg, Int.reduceEq, Int.reducePow, reduceIte, reduceCtorEq, Int.reduceMul, Int.reduceAdd, Int.reduceSub, Int.reduceMod, Int.reduceDiv, Int.reduceTDiv, Int.reduceTMod]
  rw [q1]
/-! ### a place is looked up -/
def S25 (V : List Int) (S : LV) (x : Int) (c : Nat) (i j : Nat) (s : St) : Prop := i ≤ c ∧ c ≤ j ∧ j ≤ V.length ∧ ∃ T, s = (T, []) ∧ T.length = 54 ∧ getT T 0 = S ∧ getT T 1 = .i x ∧ getT T 6 = .i V.length ∧ getT T 7 = .i i ∧ getT T 8 = .i j
def fg25 : List Nat := [30, 29, 28, 27, 26, 25, 24, 23, 22, 21, 20, 19, 18, 17, 16, 15, 14, 13]
theorem step25 (K : Nat) (hK : 3 ≤ K) (V : List Int) (S : LV) (hS : SlI V S) (hl : V.length ≤ 12) (x : Int) (c : Nat) (hc1 : ∀ i : Nat, i < c → V.getD i 0 < x) (hc2 : ∀ i : Nat, c ≤ i → i < V.length → ¬ V.getD i 0 < x) (i j : Nat) (s : St) (hij : i < j) (hs : S25 V S x c i j s) :
    ∃ s', evCode (evF cm K) K 0 c25b0 (cleanN fg25 s) = some (.nrm, s') ∧ ∃ i' j', j' - i' < j - i ∧ S25 V S x c i' j' s' := by
  obtain ⟨k, rfl⟩ : ∃ k, K = k + 3 := ⟨K - 3, by omega⟩
  obtain ⟨h1, h2, h3, T, rfl, ht, t0, t1, t6, t7, t8⟩ := hs
  rw [tl54 ht]
  have g1 : (i : Int) < (j : Int) := by omega
  have w1 : IntKind.i64.wrap ((i : Int) + (j : Int)) = (i : Int) + (j : Int) := w64 _ (by omega) (by omega)
  have w2 : IntKind.u64.wrap ((i : Int) + (j : Int)) = (i : Int) + (j : Int) := by rw [IntKind.wrap_u64]; omega
  have w3 : ((i : Int) + (j : Int)).fdiv 2 = (((i + j) / 2 : Nat) : Int) := by
    rw [Int.fdiv_eq_ediv_of_nonneg _ (by omega)]; omega
  have w4 : IntKind.i64.wrap (((i + j) / 2 : Nat) : Int) = (((i + j) / 2 : Nat) : Int) := w64 _ (by omega) (by omega)
  have w5 : IntKind.i64.wrap ((((i + j) / 2 : Nat) : Int) + 1) = (((i + j) / 2 : Nat) : Int) + 1 := w64 _ (by omega) (by omega)
  generalize hm : (i + j) / 2 = m at *
  have hx := hS.ix m (by omega) (by omega)
  have hr := rd_ints V m (by omega)
  have hr' := rd_ints' V m (by omega)
  rw [Int.toNat_natCast] at hx
  by_cases h : V.getD m 0 < x
  · have hmc : m < c := by
      by_cases hmc : m < c
      · exact hmc
      · exact absurd h (hc2 m (by omega) (by omega))
    simp -implicitDefEqProofs only [c25b0, fg25, t0, t1, t6, t7, t8, hS.len, hx, hr, hr', h, g1, w1, w2, w3, w4, w5, e26, push_cast, Nat.reduceAdd, Nat.reduceMul, Nat.reduceSub, Nat.reduceLT, Nat.reduceLeDiff, Nat.reduceEqDiff, Nat.reducePow, Int.reduceToNat, Int.reduceLT, Int.reduceLE, Int.reduceNeg, Int.reduceEq, Int.reducePow, reduceIte, reduceCtorEq, Int.reduceMul, Int.reduceAdd, Int.reduceSub, Int.reduceMod, Int.reduceDiv, Int.reduceTDiv, Int.reduceTMod, iter_s]
    exact ⟨_, rfl, m + 1, j, by omega, by omega, by omega, by omega, _, rfl, rfl, rfl, rfl, rfl, rfl, rfl⟩
  · have hmc : c ≤ m := by
      by_cases hmc : c ≤ m
      · exact hmc
      · exact absurd (hc1 m (by omega)) h
    simp -implicitDefEqProofs only [c25b0, fg25, t0, t1, t6, t7, t8, hS.len, hx, hr, hr', h, g1, w1, w2, w3, w4, w5, e26, push_cast, Nat.reduceAdd, Nat.reduceMul, Nat.reduceSub, Nat.reduceLT, Nat.reduceLeDiff, Nat.reduceEqDiff, Nat.reducePow, Int.reduceToNat, Int.reduceLT, Int.reduceLE, Int.reduceNeg, Int.reduceEq, Int.reducePow, reduceIte, reduceCtorEq, Int.reduceMul, Int.reduceAdd, Int.reduceSub, Int.reduceMod, Int.reduceDiv, Int.reduceTDiv, Int.reduceTMod, iter_s]
    exact ⟨_, rfl, i, m, by omega, by omega, by omega, by omega, _, rfl, rfl, rfl, rfl, rfl, rfl, rfl⟩
theorem last25 (K : Nat) (V : List Int) (S : LV) (x : Int) (c : Nat) (i j : Nat) (s : St) (hij : ¬ i < j) (hs : S25 V S x c i j s) :
    ∃ s', evCode (evF cm K) K 0 c25b0 (cleanN fg25 s) = some (.exit 0, s') ∧ S25 V S x c c c s' := by
  obtain ⟨h1, h2, h3, T, rfl, ht, t0, t1, t6, t7, t8⟩ := hs
  rw [tl54 ht]
  have g1 : ¬ (i : Int) < (j : Int) := by omega
  obtain rfl : i = c := by omega
  obtain rfl : j = i := by omega
  simp -implicitDefEqProofs only [c25b0, fg25, t0, t1, t6, t7, t8, g1, push_cast, Nat.reduceAdd, Nat.reduceMul, Nat.reduceSub, Nat.reduceLT, Nat.reduceLeDiff, Nat.reduceEqDiff, Nat.reducePow, Int.reduceToNat, Int.reduceLT, Int.reduceLE, Int.reduceNeg, Int.reduceEq, Int.reducePow, reduceIte, reduceCtorEq, Int.reduceMul, Int.reduceAdd, Int.reduceSub, Int.reduceMod, Int.reduceDiv, Int.reduceTDiv, Int.reduceTMod, iter_s]
  exact ⟨_, rfl, by omega, by omega, by omega, _, rfl, rfl, rfl, rfl, rfl, rfl, rfl⟩
theorem iter25 (K : Nat) (hK : 3 ≤ K) (V : List Int) (S : LV) (hS : SlI V S) (hl : V.length ≤ 12) (x : Int) (c : Nat) (hc1 : ∀ i : Nat, i < c → V.getD i 0 < x) (hc2 : ∀ i : Nat, c ≤ i → i < V.length → ¬ V.getD i 0 < x) :
    ∀ (n i j : Nat) (s : St), j - i < n → S25 V S x c i j s → ∃ s', iter (evCode (evF cm K) K 0 c25b0) (cleanN fg25) n s = some (.exit 0, s') ∧ S25 V S x c c c s'
  | 0, i, j, s, h, _ => by omega
  | n + 1, i, j, s, h, hs => by
    by_cases hij : i < j
    · obtain ⟨s', h1, i', j', h2, h3⟩ := step25 K hK V S hS hl x c hc1 hc2 i j s hij hs
      obtain ⟨s'', h4, h5⟩ := iter25 K hK V S hS hl x c hc1 hc2 n i' j' s' (by omega) h3
      exact ⟨s'', by simp only [iter, h1]; exact h4, h5⟩
    · obtain ⟨s', h1, h2⟩ := last25 K V S x c i j s hij hs
      exact ⟨s', by simp only [iter, h1], h2⟩
theorem e25 (k : Nat) (V : List Int) (S : LV) (hS : SlI V S) (hl : V.length ≤ 12) (x : Int) (c : Nat) (hc : c ≤ V.length) (hc1 : ∀ i : Nat, i < c → V.getD i 0 < x) (hc2 : ∀ i : Nat, c ≤ i → i < V.length → ¬ V.getD i 0 < x) :
    ∃ b, evP (evF cm (k + 20)) 25 [S, .i x] = some (.tup [.i c, .b b]) := by
  rw [evP_fun (m := c25) rfl _ _ rfl]
  have key : ∀ s I, iter (evCode (evF cm (k + 19)) (k + 19) 0 c25b0) (cleanN fg25) (k + 19) s = I → S25 V S x c 0 V.length s → ∃ s', I = some (.exit 0, s') ∧ S25 V S x c c c s' := by
    intro s I hI hs
    obtain ⟨s', h1, h2⟩ := iter25 (k + 19) (by omega) V S hS hl x c hc1 hc2 (k + 19) 0 V.length s (by omega) hs
    exact ⟨s', hI.symm.trans h1, h2⟩
  simp -implicitDefEqProofs only [c25, hS.len, push_cast, Nat.reduceAdd, Nat.reduceMul, Nat.reduceSub, Nat.reduceLT, Nat.reduceLeDiff, Nat.reduceEqDiff, Nat.reducePow, Int.reduceToNat, Int.reduceLT, Int.reduceLE, Int.reduceNeg, Int.reduceEq, Int.reducePow, reduceIte, reduceCtorEq, Int.reduceMul, Int.reduceAdd, Int.reduceSub, Int.reduceMod, Int.reduceDiv, Int.reduceTDiv, Int.reduceTMod]
  generalize hI : iter _ _ _ _ = I
  obtain ⟨s', hI2, -, -, -, T, rfl, ht, t0, t1, t6, t7, t8⟩ := key _ _ hI ⟨by omega, hc, Nat.le_refl _, _, rfl, rfl, rfl, rfl, rfl, rfl, rfl⟩
  subst hI2
  rw [tl54 ht]
  by_cases h : c < V.length
  · have g1 : (c : Int) < V.length := by omega
    have hx := hS.ix c (by omega) g1
    have hr := rd_ints V c h
    have hr' := rd_ints' V c h
    rw [Int.toNat_natCast] at hx
    by_cases h5 : V.getD c 0 = x
    · simp -implicitDefEqProofs only [t0, t1, t6, t7, t8, g1, hx, hr, hr', h5, e27, push_cast, Nat.reduceAdd, Nat.reduceMul, Nat.reduceSub, Nat.reduceLT, Nat.reduceLeDiff, Nat.reduceEqDiff, Nat.reducePow, Int.reduceToNat, Int.reduceLT, Int.reduceLE, Int.reduceNeg, Int.reduceEq, Int.reducePow, reduceIte, reduceCtorEq, Int.reduceMul, Int.reduceAdd, Int.reduceSub, Int.reduceMod, Int.reduceDiv, Int.reduceTDiv, Int.reduceTMod]
      exact ⟨_, rfl⟩
    · simp -implicitDefEqProofs only [t0, t1, t6, t7, t8, g1, hx, hr, hr', h5, e27, push_cast, Nat.reduceAdd, Nat.reduceMul, Nat.reduceSub, Nat.reduceLT, Nat.reduceLeDiff, Nat.reduceEqDiff, Nat.reducePow, Int.reduceToNat, Int.reduceLT, Int.reduceLE, Int.reduceNeg, Int.reduceEq, Int.reducePow, reduceIte, reduceCtorEq, Int.reduceMul, Int.reduceAdd, Int.reduceSub, Int.reduceMod, Int.reduceDiv, Int.reduceTDiv, Int.reduceTMod]
      exact ⟨_, rfl⟩
  · have g1 : ¬ (c : Int) < V.length := by omega
    simp -implicitDefEqProofs only [t0, t1, t6, t7, t8, g1, push_cast, Nat.reduceAdd, Nat.reduceMul, Nat.reduceSub, Nat.reduceLT, Nat.reduceLeDiff, Nat.reduceEqDiff, Nat.reducePow, Int.reduceToNat, Int.reduceLT, Int.reduceLE, Int.reduceNeg, Int.reduceEq, Int.reducePow, reduceIte, reduceCtorEq, Int.reduceMul, Int.reduceAdd, Int.reduceSub, Int.reduceMod, Int.reduceDiv, Int.reduceTDiv, Int.reduceTMod]
    exact ⟨_, rfl⟩
end Go.Proofs.Ytbmfmcimcdajcaa
