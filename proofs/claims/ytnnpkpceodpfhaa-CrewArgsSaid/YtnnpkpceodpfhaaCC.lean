/- What may be a frame: the document's answer and the crew's, as the evaluator answers. -/
import Derived.Test.YtnnpkpceodpfhaaCB
set_option linter.unusedSimpArgs false
set_option linter.unusedVariables false
set_option linter.unusedSectionVars false
set_option maxRecDepth 100000
set_option maxHeartbeats 16000000
namespace Go.Proofs.Ytnnpkpceodpfhaa
open Go
/-- A number that may not stand where it does. -/
def badJ (t : Int) (l : List Int) (i : Nat) : Prop := l.getD i 0 < 0 ∨ t ≤ l.getD i 0 ∨ (0 < i ∧ l.getD i 0 ≤ l.getD (i - 1) 0)
def good (t : Int) (l : List Int) : Prop := ∀ i, i < l.length → ¬ badJ t l i
theorem good_ge {t : Int} {l : List Int} {n : Nat} (h : ∀ i, i < n → ¬ badJ t l i) : ∀ i, i < n → (i : Int) ≤ l.getD i 0
  | 0, hi => by have := h 0 hi; unfold badJ at this; omega
  | i + 1, hi => by
    have h1 := good_ge h i (by omega)
    have h2 := h (i + 1) hi
    unfold badJ at h2
    rw [Nat.add_sub_cancel] at h2
    push_cast
    omega
theorem good_len {t : Nat} {l : List Int} (h : good t l) : l.length ≤ t := by
  by_cases h0 : l.length = 0
  · omega
  · have h1 := good_ge h (l.length - 1) (by omega)
    have h2 := h (l.length - 1) (by omega)
    unfold badJ at h2
    omega
/-! ### the document's answer -/
def fg27 : List Nat := [11, 10, 4, 40, 39, 38, 37, 36, 35, 34, 33, 32, 31, 30, 29, 28, 27, 26, 25, 24, 23, 22, 21, 20, 19, 18, 17, 16, 15, 14, 13, 12, 9, 8, 7, 6]
theorem tl41 {T : List LV} (h : T.length = 41) : T = [getT T 0, getT T 1, getT T 2, getT T 3, getT T 4, getT T 5, getT T 6, getT T 7, getT T 8, getT T 9, getT T 10, getT T 11, getT T 12, getT T 13, getT T 14, getT T 15, getT T 16, getT T 17, getT T 18, getT T 19, getT T 20, getT T 21, getT T 22, getT T 23, getT T 24, getT T 25, getT T 26, getT T 27, getT T 28, getT T 29, getT T 30, getT T 31, getT T 32, getT T 33, getT T 34, getT T 35, getT T 36, getT T 37, getT T 38, getT T 39, getT T 40] := tlT h
section
variable {l : List Int} {S : LV} (hS : SlI l S) (t : Nat) (ht : t ≤ 1000)
include hS ht
def S27 (l : List Int) (S : LV) (t : Nat) (i : Nat) (s : St) : Prop := ∃ T h, s = (T, h) ∧ T.length = 41 ∧ getT T 0 = S ∧ getT T 1 = .i t ∧ getT T 5 = .i i ∧ ∀ j, j < i → ¬ badJ t l j
theorem rising_round (K : Nat) (i : Nat) (s : St) (hl : l.length ≤ 9223372036854775807) (hi : i < l.length) (hs : S27 l S t i s) :
    (∃ s', evCode (evF cm K) K 0 c27b0 (cleanN fg27 s) = some (.nrm, s') ∧ S27 l S t (i + 1) s') ∨ (∃ s', evCode (evF cm K) K 0 c27b0 (cleanN fg27 s) = some (.ret, s') ∧ (∃ T h, s' = (T, h) ∧ T.length = 41 ∧ getT T 4 = .b false) ∧ ¬ good t l) := by
  obtain ⟨T, h, rfl, hT, t0, t1, t5, hg⟩ := hs
  rw [tl41 hT]
  have g1 : (i : Int) < (l.length : Int) := by omega
  have w1 : IntKind.i64.wrap ((i : Int) + 1) = ((i + 1 : Nat) : Int) := by rw [w64 _ (by omega) (by omega)]; omega
  have hx := hS.ix i (by omega) g1
  rw [Int.toNat_natCast] at hx
  have hr := rd_ints l i hi
  have hr' := rd_ints' l i hi
  have nb : badJ t l i → ¬ good t l := fun hb hh => hh i hi hb
  unfold badJ at nb
  by_cases b1 : l.getD i 0 < 0
  · refine .inr ?_
    have hng := nb (.inl b1)
    generalize l.getD i 0 = v at *
    simp -implicitDefEqProofs only [c27b0, fg27, t0, t1, t5, hS.len, hx, hr, hr', g1, b1, push_cast, Nat.reduceAdd, Nat.reduceMul, Nat.reduceSub, Nat.reduceLT, Nat.reduceLeDiff, Nat.reduceEqDiff, Nat.reducePow, Int.reduceToNat, Int.reduceLT, Int.reduceLE, Int.reduceNeg, Int.reduceEq, Int.reducePow, reduceIte, reduceCtorEq, Int.reduceMul, Int.reduceAdd, Int.reduceSub, Int.reduceMod, Int.reduceDiv, Int.reduceTDiv, Int.reduceTMod, iter_s]
    exact ⟨_, rfl, ⟨_, _, rfl, rfl, rfl⟩, hng⟩
  by_cases b2 : (t : Int) ≤ l.getD i 0
  · refine .inr ?_
    have hng := nb (.inr (.inl b2))
    generalize l.getD i 0 = v at *
    simp -implicitDefEqProofs only [c27b0, fg27, t0, t1, t5, hS.len, hx, hr, hr', g1, b1, b2, push_cast, Nat.reduceAdd, Nat.reduceMul, Nat.reduceSub, Nat.reduceLT, Nat.reduceLeDiff, Nat.reduceEqDiff, Nat.reducePow, Int.reduceToNat, Int.reduceLT, Int.reduceLE, Int.reduceNeg, Int.reduceEq, Int.reducePow, reduceIte, reduceCtorEq, Int.reduceMul, Int.reduceAdd, Int.reduceSub, Int.reduceMod, Int.reduceDiv, Int.reduceTDiv, Int.reduceTMod, iter_s]
    exact ⟨_, rfl, ⟨_, _, rfl, rfl, rfl⟩, hng⟩
  cases i with
  | zero =>
    refine .inl ?_
    have hn : ¬ badJ t l 0 := by unfold badJ; omega
    generalize l.getD 0 0 = v at *
    have z0 : ((0 : Nat) : Int) = 0 := rfl
    rw [z0] at hx t5 g1
    have w0 : IntKind.i64.wrap ((0 : Int) + 1) = 1 := rfl
    have hr2 := hr
    have hr3 := hr'
    rw [List.drop_zero] at hr2 hr3
    simp -implicitDefEqProofs only [c27b0, fg27, t0, t1, t5, hS.len, hx, hr, hr', hr2, hr3, g1, w0, b1, b2, push_cast, Nat.reduceAdd, Nat.reduceMul, Nat.reduceSub, Nat.reduceLT, Nat.reduceLeDiff, Nat.reduceEqDiff, Nat.reducePow, Int.reduceToNat, Int.reduceLT, Int.reduceLE, Int.reduceNeg, Int.reduceEq, Int.reducePow, reduceIte, reduceCtorEq, Int.reduceMul, Int.reduceAdd, Int.reduceSub, Int.reduceMod, Int.reduceDiv, Int.reduceTDiv, Int.reduceTMod, iter_s]
    refine ⟨_, rfl, _, _, rfl, rfl, rfl, rfl, by rfl, ?_⟩
    intro j hj
    have : j = 0 := by omega
    subst this
    exact hn
  | succ j =>
    have q1 : (0 : Int) < ((j + 1 : Nat) : Int) := by omega
    have w2 : IntKind.i64.wrap (((j + 1 : Nat) : Int) - 1) = (j : Int) := by rw [w64 _ (by omega) (by omega)]; omega
    have hy := hS.ix j (by omega) (by omega)
    rw [Int.toNat_natCast] at hy
    have hq := rd_ints l j (by omega)
    have hq' := rd_ints' l j (by omega)
    rw [Nat.add_sub_cancel] at nb
    by_cases b3 : l.getD (j + 1) 0 ≤ l.getD j 0
    · refine .inr ?_
      have hng := nb (.inr (.inr ⟨Nat.succ_pos j, b3⟩))
      generalize l.getD (j + 1) 0 = v at *
      generalize l.getD j 0 = u at *
      generalize ((j + 1 : Nat) : Int) = j1 at *
      simp -implicitDefEqProofs only [c27b0, fg27, t0, t1, t5, hS.len, hx, hr, hr', hy, hq, hq', g1, q1, w2, b1, b2, b3, push_cast, Nat.reduceAdd, Nat.reduceMul, Nat.reduceSub, Nat.reduceLT, Nat.reduceLeDiff, Nat.reduceEqDiff, Nat.reducePow, Int.reduceToNat, Int.reduceLT, Int.reduceLE, Int.reduceNeg, Int.reduceEq, Int.reducePow, reduceIte, reduceCtorEq, Int.reduceMul, Int.reduceAdd, Int.reduceSub, Int.reduceMod, Int.reduceDiv, Int.reduceTDiv, Int.reduceTMod, iter_s]
      exact ⟨_, rfl, ⟨_, _, rfl, rfl, rfl⟩, hng⟩
    · refine .inl ?_
      have hn : ¬ badJ t l (j + 1) := by unfold badJ; rw [Nat.add_sub_cancel]; omega
      generalize l.getD (j + 1) 0 = v at *
      generalize l.getD j 0 = u at *
      generalize hj1 : ((j + 1 : Nat) : Int) = j1 at *
      generalize hj2 : ((j + 1 + 1 : Nat) : Int) = j2 at *
      simp -implicitDefEqProofs only [c27b0, fg27, t0, t1, t5, hS.len, hx, hr, hr', hy, hq, hq', g1, q1, w1, w2, b1, b2, b3, push_cast, Nat.reduceAdd, Nat.reduceMul, Nat.reduceSub, Nat.reduceLT, Nat.reduceLeDiff, Nat.reduceEqDiff, Nat.reducePow, Int.reduceToNat, Int.reduceLT, Int.reduceLE, Int.reduceNeg, Int.reduceEq, Int.reducePow, reduceIte, reduceCtorEq, Int.reduceMul, Int.reduceAdd, Int.reduceSub, Int.reduceMod, Int.reduceDiv, Int.reduceTDiv, Int.reduceTMod, iter_s]
      refine ⟨_, rfl, _, _, rfl, rfl, rfl, rfl, by rw [hj2]; rfl, ?_⟩
      intro i hi
      by_cases h' : i < j + 1
      · exact hg i h'
      · have : i = j + 1 := by omega
        subst this
        exact hn
theorem rising_last (K : Nat) (s : St) (hs : S27 l S t l.length s) :
    ∃ s', evCode (evF cm K) K 0 c27b0 (cleanN fg27 s) = some (.exit 0, s') ∧ (∃ T h, s' = (T, h) ∧ T.length = 41) ∧ good t l := by
  obtain ⟨T, h, rfl, hT, t0, t1, t5, hg⟩ := hs
  rw [tl41 hT]
  have g1 : ¬ (l.length : Int) < (l.length : Int) := by omega
  simp -implicitDefEqProofs only [c27b0, fg27, t0, t1, t5, hS.len, g1, push_cast, Nat.reduceAdd, Nat.reduceMul, Nat.reduceSub, Nat.reduceLT, Nat.reduceLeDiff, Nat.reduceEqDiff, Nat.reducePow, Int.reduceToNat, Int.reduceLT, Int.reduceLE, Int.reduceNeg, Int.reduceEq, Int.reducePow, reduceIte, reduceCtorEq, Int.reduceMul, Int.reduceAdd, Int.reduceSub, Int.reduceMod, Int.reduceDiv, Int.reduceTDiv, Int.reduceTMod, iter_s]
  exact ⟨_, rfl, ⟨_, _, rfl, rfl⟩, hg⟩
open Classical in
theorem rising_ok (K : Nat) (hl : l.length ≤ 9223372036854775807) : evP (evF cm (K + l.length + 2)) 27 [S, .i t] = some (.b (decide (good t l))) := by
  have key : ∀ s I, iter (evCode (evF cm (K + l.length + 1)) (K + l.length + 1) 0 c27b0) (cleanN fg27) (K + l.length + 1) s = I → S27 l S t 0 s → (∃ s', I = some (.exit 0, s') ∧ (∃ T h, s' = (T, h) ∧ T.length = 41) ∧ good t l) ∨ (∃ s', I = some (.ret, s') ∧ (∃ T h, s' = (T, h) ∧ T.length = 41 ∧ getT T 4 = .b false) ∧ ¬ good t l) := by
    intro s I hI hs
    have := @iter_until (evCode (evF cm (K + l.length + 1)) (K + l.length + 1) 0 c27b0) (cleanN fg27) (S27 l S t) (fun s' => (∃ T h, s' = (T, h) ∧ T.length = 41) ∧ good t l) (fun s' => (∃ T h, s' = (T, h) ∧ T.length = 41 ∧ getT T 4 = .b false) ∧ ¬ good t l) l.length 0
      (fun i s hi hs => rising_round hS t ht _ i s hl hi hs |>.elim .inl fun h => .inr h) (fun s hs => rising_last hS t ht _ s hs) l.length 0 s (K + l.length + 1) (by omega) (by omega) hs
    rcases this with ⟨s', h1, h2⟩ | ⟨s', h1, h2⟩
    · exact .inl ⟨s', hI.symm.trans h1, h2⟩
    · exact .inr ⟨s', hI.symm.trans h1, h2⟩
  rw [evP_fun (m := c27) rfl _ _ rfl]
  simp -implicitDefEqProofs only [c27, push_cast, Nat.reduceAdd, Nat.reduceMul, Nat.reduceSub, Nat.reduceLT, Nat.reduceLeDiff, Nat.reduceEqDiff, Nat.reducePow, Int.reduceToNat, Int.reduceLT, Int.reduceLE, Int.reduceNeg, Int.reduceEq, Int.reducePow, reduceIte, reduceCtorEq, Int.reduceMul, Int.reduceAdd, Int.reduceSub, Int.reduceMod, Int.reduceDiv, Int.reduceTDiv, Int.reduceTMod]
  generalize hI : iter _ _ _ _ = I
  rcases key _ _ hI ⟨_, _, rfl, rfl, rfl, rfl, rfl, fun j hj => by omega⟩ with ⟨s', hI2, ⟨T, h, rfl, hT⟩, hg⟩ | ⟨s', hI2, ⟨T, h, rfl, hT, t4⟩, hg⟩
  · subst hI2
    rw [tl41 hT]
    simp -implicitDefEqProofs only [decide_eq_true hg, push_cast, Nat.reduceAdd, Nat.reduceMul, Nat.reduceSub, Nat.reduceLT, Nat.reduceLeDiff, Nat.reduceEqDiff, Nat.reducePow, Int.reduceToNat, Int.reduceLT, Int.reduceLE, Int.reduceNeg, Int.reduceEq, Int.reducePow, reduceIte, reduceCtorEq, Int.reduceMul, Int.reduceAdd, Int.reduceSub, Int.reduceMod, Int.reduceDiv, Int.reduceTDiv, Int.reduceTMod]
  · subst hI2
    rw [tl41 hT]
    simp -implicitDefEqProofs only [t4, decide_eq_false hg, push_cast, Nat.reduceAdd, Nat.reduceMul, Nat.reduceSub, Nat.reduceLT, Nat.reduceLeDiff, Nat.reduceEqDiff, Nat.reducePow, Int.reduceToNat, Int.reduceLT, Int.reduceLE, Int.reduceNeg, Int.reduceEq, Int.reducePow, reduceIte, reduceCtorEq, Int.reduceMul, Int.reduceAdd, Int.reduceSub, Int.reduceMod, Int.reduceDiv, Int.reduceTDiv, Int.reduceTMod]
open Classical in
theorem rising13 (K : Nat) (hl : l.length ≤ 9223372036854775807) : evP (evF cm (K + l.length + 3)) 13 [S, .i t] = some (.b (decide (0 < l.length ∧ good t l))) := by
  have e := rising_ok hS t ht K hl
  rw [evP_fun (m := c13) rfl _ _ rfl]
  by_cases h0 : 0 < l.length
  · have g0 : (0 : Int) < (l.length : Int) := by omega
    by_cases hg : good t l
    · simp only [hg, decide_true] at e
      simp -implicitDefEqProofs only [c13, hS.len, hS.cl, g0, e, decide_eq_true (show 0 < l.length ∧ good t l from ⟨h0, hg⟩), push_cast, Nat.reduceAdd, Nat.reduceMul, Nat.reduceSub, Nat.reduceLT, Nat.reduceLeDiff, Nat.reduceEqDiff, Nat.reducePow, Int.reduceToNat, Int.reduceLT, Int.reduceLE, Int.reduceNeg, Int.reduceEq, Int.reducePow, reduceIte, reduceCtorEq, Int.reduceMul, Int.reduceAdd, Int.reduceSub, Int.reduceMod, Int.reduceDiv, Int.reduceTDiv, Int.reduceTMod, iter_s]
    · simp only [hg, decide_false] at e
      simp -implicitDefEqProofs only [c13, hS.len, hS.cl, g0, e, decide_eq_false (show ¬ (0 < l.length ∧ good t l) from fun h => hg h.2), push_cast, Nat.reduceAdd, Nat.reduceMul, Nat.reduceSub, Nat.reduceLT, Nat.reduceLeDiff, Nat.reduceEqDiff, Nat.reducePow, Int.reduceToNat, Int.reduceLT, Int.reduceLE, Int.reduceNeg, Int.reduceEq, Int.reducePow, reduceIte, reduceCtorEq, Int.reduceMul, Int.reduceAdd, Int.reduceSub, Int.reduceMod, Int.reduceDiv, Int.reduceTDiv, Int.reduceTMod, iter_s]
  · have g0 : ¬ (0 : Int) < (l.length : Int) := by omega
    simp -implicitDefEqProofs only [c13, hS.len, hS.cl, g0, decide_eq_false (show ¬ (0 < l.length ∧ good t l) from fun h => h0 h.1), push_cast, Nat.reduceAdd, Nat.reduceMul, Nat.reduceSub, Nat.reduceLT, Nat.reduceLeDiff, Nat.reduceEqDiff, Nat.reducePow, Int.reduceToNat, Int.reduceLT, Int.reduceLE, Int.reduceNeg, Int.reduceEq, Int.reducePow, reduceIte, reduceCtorEq, Int.reduceMul, Int.reduceAdd, Int.reduceSub, Int.reduceMod, Int.reduceDiv, Int.reduceTDiv, Int.reduceTMod, iter_s]
end
end Go.Proofs.Ytnnpkpceodpfhaa
