/- However the steps of who publishes and of workers come, frames are claimed once each, in order, and nothing clashes (RingOrder), as the evaluator answers: the whole. -/
import Derived.Test.YtcmlnjkbdlakfaaR2R
import Derived.Test.YtcmlnjkbdlakfaaMC
set_option linter.unusedSimpArgs false
set_option linter.unusedVariables false
set_option linter.unusedSectionVars false
set_option maxRecDepth 100000
set_option maxHeartbeats 16000000
namespace Go.Proofs.Ytcmlnjkbdlakfaa
open Go
theorem tl196 {T : List LV} (h : T.length = 196) : T = [getT T 0, getT T 1, getT T 2, getT T 3, getT T 4, getT T 5, getT T 6, getT T 7, getT T 8, getT T 9, getT T 10, getT T 11, getT T 12, getT T 13, getT T 14, getT T 15, getT T 16, getT T 17, getT T 18, getT T 19, getT T 20, getT T 21, getT T 22, getT T 23, getT T 24, getT T 25, getT T 26, getT T 27, getT T 28, getT T 29, getT T 30, getT T 31, getT T 32, getT T 33, getT T 34, getT T 35, getT T 36, getT T 37, getT T 38, getT T 39, getT T 40, getT T 41, getT T 42, getT T 43, getT T 44, getT T 45, getT T 46, getT T 47, getT T 48, getT T 49, getT T 50, getT T 51, getT T 52, getT T 53, getT T 54, getT T 55, getT T 56, getT T 57, getT T 58, getT T 59, getT T 60, getT T 61, getT T 62, getT T 63, getT T 64, getT T 65, getT T 66, getT T 67, getT T 68, getT T 69, getT T 70, getT T 71, getT T 72, getT T 73, getT T 74, getT T 75, getT T 76, getT T 77, getT T 78, getT T 79, getT T 80, getT T 81, getT T 82, getT T 83, getT T 84, getT T 85, getT T 86, getT T 87, getT T 88, getT T 89, getT T 90, getT T 91, getT T 92, getT T 93, getT T 94, getT T 95, getT T 96, getT T 97, getT T 98, getT T 99, getT T 100, getT T 101, getT T 102, getT T 103, getT T 104, getT T 105, getT T 106, getT T 107, getT T 108, getT T 109, getT T 110, getT T 111, getT T 112, getT T 113, getT T 114, getT T 115, getT T 116, getT T 117, getT T 118, getT T 119, getT T 120, getT T 121, getT T 122, getT T 123, getT T 124, getT T 125, getT T 126, getT T 127, getT T 128, getT T 129, getT T 130, getT T 131, getT T 132, getT T 133, getT T 134, getT T 135, getT T 136, getT T 137, getT T 138, getT T 139, getT T 140, getT T 141, getT T 142, getT T 143, getT T 144, getT T 145, getT T 146, getT T 147, getT T 148, getT T 149, getT T 150, getT T 151, getT T 152, getT T 153, getT T 154, getT T 155, getT T 156, getT T 157, getT T 158, getT T 159, getT T 160, getT T 161, getT T 162, getT T 163, getT T 164, getT T 165, getT T 166, getT T 167, getT T 168, getT T 169, getT T 170, getT T 171, getT T 172, getT T 173, getT T 174, getT T 175, getT T 176, getT T 177, getT T 178, getT T 179, getT T 180, getT T 181, getT T 182, getT T 183, getT T 184, getT T 185, getT T 186, getT T 187, getT T 188, getT T 189, getT T 190, getT T 191, getT T 192, getT T 193, getT T 194, getT T 195] := tlT h
section
variable {S1 S2 : LV} {K W g0 m0 : Nat} {l p : List Int}
/-! ### the tasks -/
def fgT : List Nat := [50, 49, 2, 65, 64, 63, 62, 61, 60, 59, 58, 57, 56, 55, 54, 53, 52, 51, 48, 47, 46, 45, 44]
def STk (S1 S2 : LV) (K W : Nat) (l : List Int) (i : Nat) (s : St) : Prop := ∃ T, s = (T, [⟨0, [.i K, S1, .i W, S2]⟩]) ∧ T.length = 196 ∧ getT T 1 = .p 0 0 0 ∧ getT T 3 = .i i ∧ ∀ f, f < i → 0 < tkF l f ∧ tkF l f ≤ 4
def RTk (s : St) : Prop := ∃ T h, s = (T, h) ∧ T.length = 196 ∧ getT T 2 = .b true ∧ h.isEmpty = false
theorem tasks_round (Q : Nat) (hQ : 300 ≤ Q) (hS : SlI l S1) (hF : l.length ≤ 8) (i : Nat) (s : St) (hi : i < l.length) (hs : STk S1 S2 K W l i s) :
    (∃ s', evCode (evF cm Q) Q 0 c3b1 (cleanN fgT s) = some (.nrm, s') ∧ STk S1 S2 K W l (i + 1) s') ∨ (∃ s', evCode (evF cm Q) Q 0 c3b1 (cleanN fgT s) = some (.ret, s') ∧ RTk s') := by
  obtain ⟨k, rfl⟩ : ∃ k, Q = k + 200 := ⟨Q - 200, by omega⟩
  have ea : evP (evF cm (k + 200)) 6 [] = some (.b true) := e6 k
  obtain ⟨T, rfl, hT, t1, t3, hg⟩ := hs
  rw [tl196 hT]
  have g1 : (i : Int) < (l.length : Int) := by omega
  have w1 : IntKind.i64.wrap ((i : Int) + 1) = (i : Int) + 1 := w64 _ (by omega) (by omega)
  have hx := hS.ix i (by omega) g1
  rw [Int.toNat_natCast] at hx
  have hr := rd_ints l i hi
  have hr' := rd_ints' l i hi
  have ht : l.getD i 0 = tkF l i := rfl
  rw [ht] at hr hr'
  by_cases n1 : tkF l i < 1
  · right
    simp -implicitDefEqProofs only [c3b1, fgT, t1, t3, hS.len, hx, hr, hr', g1, n1, ea, push_cast, Nat.reduceAdd, Nat.reduceMul, Nat.reduceSub, Nat.reduceLT, Nat.reduceLeDiff, Nat.reduceEqDiff, Nat.reducePow, Int.reduceToNat, Int.reduceLT, Int.reduceLE, Int.reduceNeg, Int.reduceEq, Int.reducePow, reduceIte, reduceCtorEq, Int.reduceMul, Int.reduceAdd, Int.reduceSub, Int.reduceMod, Int.reduceDiv, Int.reduceTDiv, Int.reduceTMod, iter_s]
    refine ⟨_, rfl, ?_⟩
    exact ⟨_, _, rfl, rfl, rfl, rfl⟩
  by_cases n2 : 4 < tkF l i
  · right
    simp -implicitDefEqProofs only [c3b1, fgT, t1, t3, hS.len, hx, hr, hr', g1, n1, n2, ea, push_cast, Nat.reduceAdd, Nat.reduceMul, Nat.reduceSub, Nat.reduceLT, Nat.reduceLeDiff, Nat.reduceEqDiff, Nat.reducePow, Int.reduceToNat, Int.reduceLT, Int.reduceLE, Int.reduceNeg, Int.reduceEq, Int.reducePow, reduceIte, reduceCtorEq, Int.reduceMul, Int.reduceAdd, Int.reduceSub, Int.reduceMod, Int.reduceDiv, Int.reduceTDiv, Int.reduceTMod, iter_s]
    refine ⟨_, rfl, ?_⟩
    exact ⟨_, _, rfl, rfl, rfl, rfl⟩
  · left
    simp -implicitDefEqProofs only [c3b1, fgT, t1, t3, hS.len, hx, hr, hr', g1, w1, n1, n2, push_cast, Nat.reduceAdd, Nat.reduceMul, Nat.reduceSub, Nat.reduceLT, Nat.reduceLeDiff, Nat.reduceEqDiff, Nat.reducePow, Int.reduceToNat, Int.reduceLT, Int.reduceLE, Int.reduceNeg, Int.reduceEq, Int.reducePow, reduceIte, reduceCtorEq, Int.reduceMul, Int.reduceAdd, Int.reduceSub, Int.reduceMod, Int.reduceDiv, Int.reduceTDiv, Int.reduceTMod, iter_s]
    refine ⟨_, rfl, ?_⟩
    refine ⟨_, rfl, rfl, rfl, rfl, fun f hf => ?_⟩
    by_cases e : f = i
    · subst e; omega
    · exact hg f (by omega)
theorem tasks_last (Q : Nat) (hS : SlI l S1) (s : St) (hs : STk S1 S2 K W l l.length s) :
    ∃ s', evCode (evF cm Q) Q 0 c3b1 (cleanN fgT s) = some (.exit 0, s') ∧ STk S1 S2 K W l l.length s' := by
  obtain ⟨T, rfl, hT, t1, t3, hg⟩ := hs
  rw [tl196 hT]
  have g1 : ¬ (l.length : Int) < (l.length : Int) := by omega
  simp -implicitDefEqProofs only [c3b1, fgT, t1, t3, hS.len, g1, push_cast, Nat.reduceAdd, Nat.reduceMul, Nat.reduceSub, Nat.reduceLT, Nat.reduceLeDiff, Nat.reduceEqDiff, Nat.reducePow, Int.reduceToNat, Int.reduceLT, Int.reduceLE, Int.reduceNeg, Int.reduceEq, Int.reducePow, reduceIte, reduceCtorEq, Int.reduceMul, Int.reduceAdd, Int.reduceSub, Int.reduceMod, Int.reduceDiv, Int.reduceTDiv, Int.reduceTMod, iter_s]
  refine ⟨_, rfl, ?_⟩
  exact ⟨_, rfl, rfl, rfl, rfl, hg⟩
/-! ### the run -/
def fgM : List Nat := [133, 132, 160, 159, 158, 157, 156, 155, 154, 153, 152, 151, 150, 149, 148, 147, 146, 145, 144, 143, 142, 141, 140, 139, 138, 137, 136, 135, 134, 131, 130, 129, 128, 127, 126, 125, 124, 123, 122, 121, 120, 119, 118, 117, 116, 115, 114, 113, 112, 111, 110, 109]
def SMn (S1 S2 : LV) (K W : Nat) (l p : List Int) (g0 m0 : Nat) (i : Nat) (s : St) : Prop := ∃ T h row gr C, s = (T, h) ∧ RunSt S1 S2 K W l p g0 m0 i h row gr C ∧ T.length = 196 ∧ getT T 1 = .p 0 0 0 ∧ getT T 6 = .p m0 0 0 ∧ getT T 10 = .p g0 0 0 ∧ getT T 11 = .i i
theorem run_round2 (Q : Nat) (hQ : 300 ≤ Q) (hK : 0 < K ∧ K ≤ 8) (hW : W ≤ 5) (hF : l.length ≤ 8) (hT : ∀ f, f < l.length → 0 < tkF l f ∧ tkF l f ≤ 4) (hS : SlI l S1) (z1 : eqLV S1 S1 = true) (hS2 : SlU p S2) (hp : p.length ≤ 300) (i : Nat) (s : St) (hi : i < p.length + 2000) (hd : (grun K l.length W (tkF l) (schF W p) i).done < l.length) (hs : SMn S1 S2 K W l p g0 m0 i s) :
    ∃ s', evCode (evF cm Q) Q 0 c3b0 (cleanN fgM s) = some (.nrm, s') ∧ SMn S1 S2 K W l p g0 m0 (i + 1) s' := by
  obtain ⟨k, rfl⟩ : ∃ k, Q = k + 140 := ⟨Q - 140, by omega⟩
  obtain ⟨T, h, row, gr, C, rfl, R, hTl, t1, t6, t10, t11⟩ := hs
  rw [tl196 hTl]
  obtain ⟨q0, r, ls, ca, P, nx, q1⟩ := R.rows
  have hne := R.A.ne0
  obtain ⟨h', row', gr', C', e, R'⟩ := R.step k hK hW hF hT (by omega) hS z1 hS2.eq
  have w1 : IntKind.i64.wrap ((i : Int) + 1) = (i : Int) + 1 := w64 _ (by omega) (by omega)
  have w2 : IntKind.i64.wrap ((p.length : Int) + 2000) = (p.length : Int) + 2000 := w64 _ (by omega) (by omega)
  have w3 : IntKind.i64.wrap ((W : Int) + 1) = (W : Int) + 1 := w64 _ (by omega) (by omega)
  have g1 : (i : Int) < (p.length : Int) + 2000 := by omega
  have g2 : ((grun K l.length W (tkF l) (schF W p) i).done : Int) < (l.length : Int) := by omega
  have nz : ¬ (W : Int) + 1 = 0 := by omega
  have s1 := hS.len
  have s2 := hS2.len
  have m1 : (i : Int).tmod ((W : Int) + 1) = (((i % (W + 1) : Nat)) : Int) := by rw [tmod_pos (by omega)]; push_cast; rfl
  have w4 : IntKind.i64.wrap (((i % (W + 1) : Nat)) : Int) = (((i % (W + 1) : Nat)) : Int) := by
    have := Nat.mod_lt i (show 0 < W + 1 by omega)
    exact w64 _ (by omega) (by omega)
  generalize hdn : (grun K l.length W (tkF l) (schF W p) i).done = dn at *
  generalize hnc : (grun K l.length W (tkF l) (schF W p) i).ncl = nc at *
  by_cases hip : i < p.length
  · have g3 : (i : Int) < (p.length : Int) := by omega
    have hsch : schF W p i = (p.getD i 0).toNat % (W + 1) := by unfold schF; rw [if_pos hip]
    have hx := hS2.ix i hip
    have hr := rd_u8 p i hip
    have hr' := rd_u8' p i hip
    have hv := hS2.rng (p.getD i 0) (by rw [List.getD_eq_getElem?_getD, List.getElem?_eq_getElem hip]; exact List.getElem_mem hip)
    generalize p.getD i 0 = v at *
    have w5 : IntKind.i64.wrap v = v := w64 _ (by omega) (by omega)
    have m2 : v.tmod ((W : Int) + 1) = (schF W p i : Nat) := by
      rw [hsch, tmod_pos hv.1]
      have hvn : v = ((v.toNat : Nat) : Int) := by omega
      rw [hvn]
      rw [Int.toNat_natCast]
      push_cast; rfl
    have w6 : IntKind.i64.wrap ((schF W p i : Nat) : Int) = (schF W p i : Nat) := by
      have := schF_le W p i
      exact w64 _ (by omega) (by omega)
    generalize hu : schF W p i = u at *
    generalize ((i % (W + 1) : Nat) : Int) = im at *
    by_cases h0 : u = 0
    · subst h0
      rw [if_pos rfl] at e
      have z0 : ((0 : Nat) : Int) = 0 := rfl
      rw [z0] at m2 w6
      simp -implicitDefEqProofs only [c3b0, fgM, t1, t6, t10, t11, q0, q1, s1, s2, hx, hr, hr', g1, g2, g3, w1, w2, w3, w4, w5, w6, m1, m2, nz, e, eq_self, push_cast, Nat.reduceAdd, Nat.reduceMul, Nat.reduceSub, Nat.reduceLT, Nat.reduceLeDiff, Nat.reduceEqDiff, Nat.reducePow, Int.reduceToNat, Int.reduceLT, Int.reduceLE, Int.reduceNeg, Int.reduceEq, Int.reducePow, reduceIte, reduceCtorEq, Int.reduceMul, Int.reduceAdd, Int.reduceSub, Int.reduceMod, Int.reduceDiv, Int.reduceTDiv, Int.reduceTMod, iter_s]
      refine ⟨_, rfl, ?_⟩
      exact ⟨_, h', row', gr', C', rfl, R', rfl, rfl, rfl, rfl, rfl⟩
    · rw [if_neg h0] at e
      have n0 : ¬ (u : Int) = 0 := by omega
      simp -implicitDefEqProofs only [c3b0, fgM, t1, t6, t10, t11, q0, q1, s1, s2, hx, hr, hr', g1, g2, g3, w1, w2, w3, w4, w5, w6, m1, m2, nz, n0, e, push_cast, Nat.reduceAdd, Nat.reduceMul, Nat.reduceSub, Nat.reduceLT, Nat.reduceLeDiff, Nat.reduceEqDiff, Nat.reducePow, Int.reduceToNat, Int.reduceLT, Int.reduceLE, Int.reduceNeg, Int.reduceEq, Int.reducePow, reduceIte, reduceCtorEq, Int.reduceMul, Int.reduceAdd, Int.reduceSub, Int.reduceMod, Int.reduceDiv, Int.reduceTDiv, Int.reduceTMod, iter_s]
      refine ⟨_, rfl, ?_⟩
      exact ⟨_, h', row', gr', C', rfl, R', rfl, rfl, rfl, rfl, rfl⟩
  · have g3 : ¬ (i : Int) < (p.length : Int) := by omega
    have hsch : schF W p i = i % (W + 1) := by unfold schF; rw [if_neg hip]
    rw [hsch] at e
    generalize hu : i % (W + 1) = u at *
    by_cases h0 : u = 0
    · subst h0
      rw [if_pos rfl] at e
      have z0 : ((0 : Nat) : Int) = 0 := rfl
      rw [z0] at m1 w4
      simp -implicitDefEqProofs only [c3b0, fgM, t1, t6, t10, t11, q0, q1, s1, s2, g1, g2, g3, w1, w2, w3, w4, m1, nz, e, eq_self, push_cast, Nat.reduceAdd, Nat.reduceMul, Nat.reduceSub, Nat.reduceLT, Nat.reduceLeDiff, Nat.reduceEqDiff, Nat.reducePow, Int.reduceToNat, Int.reduceLT, Int.reduceLE, Int.reduceNeg, Int.reduceEq, Int.reducePow, reduceIte, reduceCtorEq, Int.reduceMul, Int.reduceAdd, Int.reduceSub, Int.reduceMod, Int.reduceDiv, Int.reduceTDiv, Int.reduceTMod, iter_s]
      refine ⟨_, rfl, ?_⟩
      exact ⟨_, h', row', gr', C', rfl, R', rfl, rfl, rfl, rfl, rfl⟩
    · rw [if_neg h0] at e
      have n0 : ¬ (u : Int) = 0 := by omega
      simp -implicitDefEqProofs only [c3b0, fgM, t1, t6, t10, t11, q0, q1, s1, s2, g1, g2, g3, w1, w2, w3, w4, m1, nz, n0, e, push_cast, Nat.reduceAdd, Nat.reduceMul, Nat.reduceSub, Nat.reduceLT, Nat.reduceLeDiff, Nat.reduceEqDiff, Nat.reducePow, Int.reduceToNat, Int.reduceLT, Int.reduceLE, Int.reduceNeg, Int.reduceEq, Int.reducePow, reduceIte, reduceCtorEq, Int.reduceMul, Int.reduceAdd, Int.reduceSub, Int.reduceMod, Int.reduceDiv, Int.reduceTDiv, Int.reduceTMod, iter_s]
      refine ⟨_, rfl, ?_⟩
      exact ⟨_, h', row', gr', C', rfl, R', rfl, rfl, rfl, rfl, rfl⟩
theorem run_last2 (Q : Nat) (hS : SlI l S1) (hS2 : SlU p S2) (hp : p.length ≤ 300) (i : Nat) (s : St) (hi : i ≤ p.length + 2000) (hd : (grun K l.length W (tkF l) (schF W p) i).done = l.length) (hs : SMn S1 S2 K W l p g0 m0 i s) :
    ∃ s', evCode (evF cm Q) Q 0 c3b0 (cleanN fgM s) = some (.exit 2, s') ∧ SMn S1 S2 K W l p g0 m0 i s' := by
  obtain ⟨T, h, row, gr, C, rfl, R, hTl, t1, t6, t10, t11⟩ := hs
  rw [tl196 hTl]
  obtain ⟨q0, r, ls, ca, P, nx, q1⟩ := R.rows
  rw [hd] at q1
  have w2 : IntKind.i64.wrap ((p.length : Int) + 2000) = (p.length : Int) + 2000 := w64 _ (by omega) (by omega)
  have g2 : ¬ (l.length : Int) < (l.length : Int) := by omega
  have s1 := hS.len
  have s2 := hS2.len
  by_cases g1 : (i : Int) < (p.length : Int) + 2000
  · simp -implicitDefEqProofs only [c3b0, fgM, t1, t6, t10, t11, q0, q1, s1, s2, g1, g2, w2, push_cast, Nat.reduceAdd, Nat.reduceMul, Nat.reduceSub, Nat.reduceLT, Nat.reduceLeDiff, Nat.reduceEqDiff, Nat.reducePow, Int.reduceToNat, Int.reduceLT, Int.reduceLE, Int.reduceNeg, Int.reduceEq, Int.reducePow, reduceIte, reduceCtorEq, Int.reduceMul, Int.reduceAdd, Int.reduceSub, Int.reduceMod, Int.reduceDiv, Int.reduceTDiv, Int.reduceTMod, iter_s]
    refine ⟨_, rfl, ?_⟩
    exact ⟨_, h, row, gr, C, rfl, R, rfl, rfl, rfl, rfl, rfl⟩
  · simp -implicitDefEqProofs only [c3b0, fgM, t1, t6, t10, t11, q0, q1, s1, s2, g1, g2, w2, push_cast, Nat.reduceAdd, Nat.reduceMul, Nat.reduceSub, Nat.reduceLT, Nat.reduceLeDiff, Nat.reduceEqDiff, Nat.reducePow, Int.reduceToNat, Int.reduceLT, Int.reduceLE, Int.reduceNeg, Int.reduceEq, Int.reducePow, reduceIte, reduceCtorEq, Int.reduceMul, Int.reduceAdd, Int.reduceSub, Int.reduceMod, Int.reduceDiv, Int.reduceTDiv, Int.reduceTMod, iter_s]
    refine ⟨_, rfl, ?_⟩
    exact ⟨_, h, row, gr, C, rfl, R, rfl, rfl, rfl, rfl, rfl⟩
end
end Go.Proofs.Ytcmlnjkbdlakfaa
