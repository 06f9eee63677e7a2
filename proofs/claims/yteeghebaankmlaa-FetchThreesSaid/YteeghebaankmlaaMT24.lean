/- Vertices, three by three: the document's answers, as the evaluator answers. -/
import Derived.Test.YteeghebaankmlaaLT24
set_option linter.unusedSimpArgs false
set_option linter.unusedVariables false
set_option linter.unusedSectionVars false
set_option maxRecDepth 100000
set_option maxHeartbeats 16000000
namespace Go.Proofs.Yteeghebaankmlaa
open Go
theorem tlT {n : Nat} {T : List LV} (h : T.length = n) : T = (List.range n).map (getT T) := by subst h; exact tlist T
theorem tl56 {T : List LV} (h : T.length = 56) : T = [getT T 0, getT T 1, getT T 2, getT T 3, getT T 4, getT T 5, getT T 6, getT T 7, getT T 8, getT T 9, getT T 10, getT T 11, getT T 12, getT T 13, getT T 14, getT T 15, getT T 16, getT T 17, getT T 18, getT T 19, getT T 20, getT T 21, getT T 22, getT T 23, getT T 24, getT T 25, getT T 26, getT T 27, getT T 28, getT T 29, getT T 30, getT T 31, getT T 32, getT T 33, getT T 34, getT T 35, getT T 36, getT T 37, getT T 38, getT T 39, getT T 40, getT T 41, getT T 42, getT T 43, getT T 44, getT T 45, getT T 46, getT T 47, getT T 48, getT T 49, getT T 50, getT T 51, getT T 52, getT T 53, getT T 54, getT T 55] := tlT h
theorem tl80 {T : List LV} (h : T.length = 80) : T = [getT T 0, getT T 1, getT T 2, getT T 3, getT T 4, getT T 5, getT T 6, getT T 7, getT T 8, getT T 9, getT T 10, getT T 11, getT T 12, getT T 13, getT T 14, getT T 15, getT T 16, getT T 17, getT T 18, getT T 19, getT T 20, getT T 21, getT T 22, getT T 23, getT T 24, getT T 25, getT T 26, getT T 27, getT T 28, getT T 29, getT T 30, getT T 31, getT T 32, getT T 33, getT T 34, getT T 35, getT T 36, getT T 37, getT T 38, getT T 39, getT T 40, getT T 41, getT T 42, getT T 43, getT T 44, getT T 45, getT T 46, getT T 47, getT T 48, getT T 49, getT T 50, getT T 51, getT T 52, getT T 53, getT T 54, getT T 55, getT T 56, getT T 57, getT T 58, getT T 59, getT T 60, getT T 61, getT T 62, getT T 63, getT T 64, getT T 65, getT T 66, getT T 67, getT T 68, getT T 69, getT T 70, getT T 71, getT T 72, getT T 73, getT T 74, getT T 75, getT T 76, getT T 77, getT T 78, getT T 79] := tlT h
theorem iso_P2 {k : Nat} {h : List Row} {g : FuncId} {ar : List LV} {r : LV} (hc : closedL ar = true) (e : evP (evF cm2 k) g ar = some r) : isoE (evF cm2 k) h g ar = some (r, []) := by
  unfold evP at e
  rw [isoE, if_pos hc]
  cases hq : evF cm2 k g ar [] 0 with
  | none => rw [hq] at e; cases e
  | some x =>
    obtain ⟨r', h'⟩ := x
    rw [hq] at e
    simp only at e ⊢
    split at e
    · rename_i hf
      simp only [Option.some.injEq] at e
      rw [if_pos hf, e]
    · cases e
def fg7 : List Nat := [37, 36, 8, 55, 54, 53, 52, 51, 50, 49, 48, 47, 46, 45, 44, 43, 42, 41, 40, 39, 38, 35, 34, 33]
/-- An index that names a vertex. -/
def okJ (nv : Nat) (il : List Int) (n : Nat) : Prop := 0 ≤ il.getD n 0 ∧ il.getD n 0 < nv
section
variable {vl il : List Int} {nv : Nat} {V I : LV} (hV : SlE 9 nv vl V) (hI : SlI il I)
include hV hI
def S7 (V I : LV) (nv : Nat) (il : List Int) (f c : Nat) (i : Nat) (s : St) : Prop := ∃ T h, s = (T, h) ∧ T.length = 56 ∧ getT T 0 = V ∧ getT T 1 = I ∧ getT T 2 = .i f ∧ getT T 3 = .i c ∧ getT T 9 = .i i ∧ ∀ j, j < i → okJ nv il (f + j)
theorem check_round (K f c : Nat) (hli : il.length ≤ 5000) (hb : f + c ≤ il.length) (i : Nat) (s : St) (hi : i < c) (hs : S7 V I nv il f c i s) :
    (∃ s', evCode (evF cm2 K) K 0 c7b0 (cleanN fg7 s) = some (.nrm, s') ∧ S7 V I nv il f c (i + 1) s') ∨ (∃ s', evCode (evF cm2 K) K 0 c7b0 (cleanN fg7 s) = some (.ret, s') ∧ (∃ T h, s' = (T, h) ∧ T.length = 56 ∧ getT T 8 = .i 10) ∧ ∃ j, j < c ∧ ¬ okJ nv il (f + j)) := by
  obtain ⟨T, h, rfl, hT, t0, t1, t2, t3, t9, hg⟩ := hs
  rw [tl56 hT]
  have g1 : (i : Int) < (c : Int) := by omega
  have w0 : IntKind.i64.wrap ((f : Int) + (i : Int)) = ((f + i : Nat) : Int) := by rw [w64 _ (by omega) (by omega)]; omega
  have w1 : IntKind.i64.wrap ((i : Int) + 1) = (i : Int) + 1 := by rw [w64 _ (by omega) (by omega)]
  have hx := hI.ix ((f + i : Nat) : Int) (by omega) (by omega)
  rw [Int.toNat_natCast] at hx
  have hr := rd_ints il (f + i) (by omega)
  have hr' := rd_ints' il (f + i) (by omega)
  by_cases hok : okJ nv il (f + i)
  · refine .inl ?_
    have hok' := hok
    obtain ⟨k1, k2⟩ := hok
    have b1 : ¬ il.getD (f + i) 0 < 0 := by omega
    have b2 : ¬ (nv : Int) ≤ il.getD (f + i) 0 := by omega
    generalize il.getD (f + i) 0 = v at *
    generalize ((f + i : Nat) : Int) = fi at *
    simp -implicitDefEqProofs only [c7b0, fg7, t0, t1, t2, t3, t9, hV.len, hx, hr, hr', g1, b1, b2, w0, w1, push_cast, Nat.reduceAdd, Nat.reduceMul, Nat.reduceSub, Nat.reduceLT, Nat.reduceLeDiff, Nat.reduceEqDiff, Nat.reducePow, Int.reduceToNat, Int.reduceLT, Int.reduceLE, Int.reduceNeg, Int.reduceEq, Int.reducePow, reduceIte, reduceCtorEq, Int.reduceMul, Int.reduceAdd, Int.reduceSub, Int.reduceMod, Int.reduceDiv, Int.reduceTDiv, Int.reduceTMod, iter_s]
    refine ⟨_, rfl, _, _, rfl, rfl, rfl, rfl, rfl, rfl, rfl, ?_⟩
    intro j hj
    by_cases h' : j < i
    · exact hg j h'
    · have : j = i := by omega
      subst this
      exact hok'
  · refine .inr ?_
    have hbad : ∃ j, j < c ∧ ¬ okJ nv il (f + j) := ⟨i, hi, hok⟩
    unfold okJ at hok
    by_cases b1 : il.getD (f + i) 0 < 0
    · generalize il.getD (f + i) 0 = v at *
      generalize ((f + i : Nat) : Int) = fi at *
      simp -implicitDefEqProofs only [c7b0, fg7, t0, t1, t2, t3, t9, hV.len, hx, hr, hr', g1, b1, w0, w1, push_cast, Nat.reduceAdd, Nat.reduceMul, Nat.reduceSub, Nat.reduceLT, Nat.reduceLeDiff, Nat.reduceEqDiff, Nat.reducePow, Int.reduceToNat, Int.reduceLT, Int.reduceLE, Int.reduceNeg, Int.reduceEq, Int.reducePow, reduceIte, reduceCtorEq, Int.reduceMul, Int.reduceAdd, Int.reduceSub, Int.reduceMod, Int.reduceDiv, Int.reduceTDiv, Int.reduceTMod, iter_s]
      exact ⟨_, rfl, ⟨_, _, rfl, rfl, rfl⟩, hbad⟩
    · have b2 : (nv : Int) ≤ il.getD (f + i) 0 := by omega
      generalize il.getD (f + i) 0 = v at *
      generalize ((f + i : Nat) : Int) = fi at *
      simp -implicitDefEqProofs only [c7b0, fg7, t0, t1, t2, t3, t9, hV.len, hx, hr, hr', g1, b1, b2, w0, w1, push_cast, Nat.reduceAdd, Nat.reduceMul, Nat.reduceSub, Nat.reduceLT, Nat.reduceLeDiff, Nat.reduceEqDiff, Nat.reducePow, Int.reduceToNat, Int.reduceLT, Int.reduceLE, Int.reduceNeg, Int.reduceEq, Int.reducePow, reduceIte, reduceCtorEq, Int.reduceMul, Int.reduceAdd, Int.reduceSub, Int.reduceMod, Int.reduceDiv, Int.reduceTDiv, Int.reduceTMod, iter_s]
      exact ⟨_, rfl, ⟨_, _, rfl, rfl, rfl⟩, hbad⟩
theorem check_last (K f c : Nat) (s : St) (hs : S7 V I nv il f c c s) :
    ∃ s', evCode (evF cm2 K) K 0 c7b0 (cleanN fg7 s) = some (.exit 0, s') ∧ (∃ T h, s' = (T, h) ∧ T.length = 56) ∧ ∀ j, j < c → okJ nv il (f + j) := by
  obtain ⟨T, h, rfl, hT, t0, t1, t2, t3, t9, hg⟩ := hs
  rw [tl56 hT]
  have g1 : ¬ (c : Int) < (c : Int) := by omega
  simp -implicitDefEqProofs only [c7b0, fg7, t0, t1, t2, t3, t9, g1, push_cast, Nat.reduceAdd, Nat.reduceMul, Nat.reduceSub, Nat.reduceLT, Nat.reduceLeDiff, Nat.reduceEqDiff, Nat.reducePow, Int.reduceToNat, Int.reduceLT, Int.reduceLE, Int.reduceNeg, Int.reduceEq, Int.reducePow, reduceIte, reduceCtorEq, Int.reduceMul, Int.reduceAdd, Int.reduceSub, Int.reduceMod, Int.reduceDiv, Int.reduceTDiv, Int.reduceTMod, iter_s]
  exact ⟨_, rfl, ⟨_, _, rfl, rfl⟩, hg⟩
theorem e7c (K f c : Nat) (hli : il.length ≤ 5000) (hb : f + c ≤ il.length) (h3 : c % 3 = 0) :
    (evP (evF cm2 (K + 5002)) 7 [V, I, .i f, .i c] = some (.i 0) ∧ ∀ j, j < c → okJ nv il (f + j)) ∨ (evP (evF cm2 (K + 5002)) 7 [V, I, .i f, .i c] = some (.i 10) ∧ ∃ j, j < c ∧ ¬ okJ nv il (f + j)) := by
  have key : ∀ s Z, iter (evCode (evF cm2 (K + 5001)) (K + 5001) 0 c7b0) (cleanN fg7) (K + 5001) s = Z → S7 V I nv il f c 0 s → (∃ s', Z = some (.exit 0, s') ∧ (∃ T h, s' = (T, h) ∧ T.length = 56) ∧ ∀ j, j < c → okJ nv il (f + j)) ∨ (∃ s', Z = some (.ret, s') ∧ (∃ T h, s' = (T, h) ∧ T.length = 56 ∧ getT T 8 = .i 10) ∧ ∃ j, j < c ∧ ¬ okJ nv il (f + j)) := by
    intro s Z hZ hs
    have := @iter_until (evCode (evF cm2 (K + 5001)) (K + 5001) 0 c7b0) (cleanN fg7) (S7 V I nv il f c) (fun s' => (∃ T h, s' = (T, h) ∧ T.length = 56) ∧ ∀ j, j < c → okJ nv il (f + j)) (fun s' => (∃ T h, s' = (T, h) ∧ T.length = 56 ∧ getT T 8 = .i 10) ∧ ∃ j, j < c ∧ ¬ okJ nv il (f + j)) c 0
      (fun i s hi hs => check_round hV hI _ f c hli hb i s hi hs |>.elim .inl fun h => .inr h) (fun s hs => check_last hV hI _ f c s hs) c 0 s (K + 5001) (by omega) (by omega) hs
    rcases this with ⟨s', h1, h2⟩ | ⟨s', h1, h2⟩
    · exact .inl ⟨s', hZ.symm.trans h1, h2⟩
    · exact .inr ⟨s', hZ.symm.trans h1, h2⟩
  have a1 : ¬ (f : Int) < 0 := by omega
  have a2 : ¬ (c : Int) < 0 := by omega
  have a3 : (c : Int).tmod 3 = 0 := by rw [Int.tmod_eq_emod_of_nonneg (by omega)]; omega
  have a3' : IntKind.i64.wrap ((c : Int).tmod 3) = 0 := by rw [a3]; rfl
  have a4 : ¬ (il.length : Int) < (f : Int) := by omega
  have a5 : ¬ (il.length : Int) - (f : Int) < (c : Int) := by omega
  have w5 : IntKind.i64.wrap ((il.length : Int) - (f : Int)) = (il.length : Int) - (f : Int) := by rw [w64 _ (by omega) (by omega)]
  rw [evP_fun (m := c7) rfl _ _ rfl]
  simp -implicitDefEqProofs only [c7, hI.len, hV.cells, hI.cells, hV.cl, hI.cl, a1, a2, a3, a3', a4, a5, w5, push_cast, Nat.reduceAdd, Nat.reduceMul, Nat.reduceSub, Nat.reduceLT, Nat.reduceLeDiff, Nat.reduceEqDiff, Nat.reducePow, Int.reduceToNat, Int.reduceLT, Int.reduceLE, Int.reduceNeg, Int.reduceEq, Int.reducePow, reduceIte, reduceCtorEq, Int.reduceMul, Int.reduceAdd, Int.reduceSub, Int.reduceMod, Int.reduceDiv, Int.reduceTDiv, Int.reduceTMod]
  generalize hZ : iter _ _ _ _ = Z
  rcases key _ _ hZ ⟨_, _, rfl, rfl, rfl, rfl, rfl, rfl, rfl, fun j hj => by omega⟩ with ⟨s', hZ2, ⟨T, h, rfl, hT⟩, hg⟩ | ⟨s', hZ2, ⟨T, h, rfl, hT, t8⟩, hg⟩
  · subst hZ2
    refine .inl ⟨?_, hg⟩
    rw [tl56 hT]
    simp -implicitDefEqProofs only [push_cast, Nat.reduceAdd, Nat.reduceMul, Nat.reduceSub, Nat.reduceLT, Nat.reduceLeDiff, Nat.reduceEqDiff, Nat.reducePow, Int.reduceToNat, Int.reduceLT, Int.reduceLE, Int.reduceNeg, Int.reduceEq, Int.reducePow, reduceIte, reduceCtorEq, Int.reduceMul, Int.reduceAdd, Int.reduceSub, Int.reduceMod, Int.reduceDiv, Int.reduceTDiv, Int.reduceTMod]
  · subst hZ2
    refine .inr ⟨?_, hg⟩
    rw [tl56 hT]
    simp -implicitDefEqProofs only [t8, push_cast, Nat.reduceAdd, Nat.reduceMul, Nat.reduceSub, Nat.reduceLT, Nat.reduceLeDiff, Nat.reduceEqDiff, Nat.reducePow, Int.reduceToNat, Int.reduceLT, Int.reduceLE, Int.reduceNeg, Int.reduceEq, Int.reducePow, reduceIte, reduceCtorEq, Int.reduceMul, Int.reduceAdd, Int.reduceSub, Int.reduceMod, Int.reduceDiv, Int.reduceTDiv, Int.reduceTMod]
theorem e7a (k : Nat) (f c : Int) (h : f < 0 ∨ c < 0 ∨ c % 3 ≠ 0) : evP (evF cm2 (k + 1)) 7 [V, I, .i f, .i c] = some (.i 3) := by
  rw [evP_fun (m := c7) rfl _ _ rfl]
  by_cases a1 : f < 0
  · simp -implicitDefEqProofs only [c7, hI.len, hV.cells, hI.cells, hV.cl, hI.cl, a1, push_cast, Nat.reduceAdd, Nat.reduceMul, Nat.reduceSub, Nat.reduceLT, Nat.reduceLeDiff, Nat.reduceEqDiff, Nat.reducePow, Int.reduceToNat, Int.reduceLT, Int.reduceLE, Int.reduceNeg, Int.reduceEq, Int.reducePow, reduceIte, reduceCtorEq, Int.reduceMul, Int.reduceAdd, Int.reduceSub, Int.reduceMod, Int.reduceDiv, Int.reduceTDiv, Int.reduceTMod, iter_s]
  by_cases a2 : c < 0
  · simp -implicitDefEqProofs only [c7, hI.len, hV.cells, hI.cells, hV.cl, hI.cl, a1, a2, push_cast, Nat.reduceAdd, Nat.reduceMul, Nat.reduceSub, Nat.reduceLT, Nat.reduceLeDiff, Nat.reduceEqDiff, Nat.reducePow, Int.reduceToNat, Int.reduceLT, Int.reduceLE, Int.reduceNeg, Int.reduceEq, Int.reducePow, reduceIte, reduceCtorEq, Int.reduceMul, Int.reduceAdd, Int.reduceSub, Int.reduceMod, Int.reduceDiv, Int.reduceTDiv, Int.reduceTMod, iter_s]
  have e3 : c.tmod 3 = c % 3 := Int.tmod_eq_emod_of_nonneg (by omega)
  have a3 : ¬ c.tmod 3 = 0 := by omega
  have w3 : IntKind.i64.wrap (c.tmod 3) = c.tmod 3 := by rw [w64 _ (by omega) (by omega)]
  simp -implicitDefEqProofs only [c7, hI.len, hV.cells, hI.cells, hV.cl, hI.cl, a1, a2, a3, w3, push_cast, Nat.reduceAdd, Nat.reduceMul, Nat.reduceSub, Nat.reduceLT, Nat.reduceLeDiff, Nat.reduceEqDiff, Nat.reducePow, Int.reduceToNat, Int.reduceLT, Int.reduceLE, Int.reduceNeg, Int.reduceEq, Int.reducePow, reduceIte, reduceCtorEq, Int.reduceMul, Int.reduceAdd, Int.reduceSub, Int.reduceMod, Int.reduceDiv, Int.reduceTDiv, Int.reduceTMod, iter_s]
theorem e7b (k : Nat) (f c : Int) (hli : il.length ≤ 5000) (h0 : 0 ≤ f) (h1 : 0 ≤ c) (h2 : c % 3 = 0) (h : (il.length : Int) < f ∨ (il.length : Int) - f < c) : evP (evF cm2 (k + 1)) 7 [V, I, .i f, .i c] = some (.i 10) := by
  have a1 : ¬ f < 0 := by omega
  have a2 : ¬ c < 0 := by omega
  have e3 : c.tmod 3 = c % 3 := Int.tmod_eq_emod_of_nonneg (by omega)
  have a3 : c.tmod 3 = 0 := by omega
  have a3' : IntKind.i64.wrap (c.tmod 3) = 0 := by rw [a3]; rfl
  rw [evP_fun (m := c7) rfl _ _ rfl]
  by_cases a4 : (il.length : Int) < f
  · simp -implicitDefEqProofs only [c7, hI.len, hV.cells, hI.cells, hV.cl, hI.cl, a1, a2, a3, a3', a4, push_cast, Nat.reduceAdd, Nat.reduceMul, Nat.reduceSub, Nat.reduceLT, Nat.reduceLeDiff, Nat.reduceEqDiff, Nat.reducePow, Int.reduceToNat, Int.reduceLT, Int.reduceLE, Int.reduceNeg, Int.reduceEq, Int.reducePow, reduceIte, reduceCtorEq, Int.reduceMul, Int.reduceAdd, Int.reduceSub, Int.reduceMod, Int.reduceDiv, Int.reduceTDiv, Int.reduceTMod, iter_s]
  · have a5 : (il.length : Int) - f < c := by omega
    have w5 : IntKind.i64.wrap ((il.length : Int) - f) = (il.length : Int) - f := by rw [w64 _ (by omega) (by omega)]
    simp -implicitDefEqProofs only [c7, hI.len, hV.cells, hI.cells, hV.cl, hI.cl, a1, a2, a3, a3', a4, a5, w5, push_cast, Nat.reduceAdd, Nat.reduceMul, Nat.reduceSub, Nat.reduceLT, Nat.reduceLeDiff, Nat.reduceEqDiff, Nat.reducePow, Int.reduceToNat, Int.reduceLT, Int.reduceLE, Int.reduceNeg, Int.reduceEq, Int.reducePow, reduceIte, reduceCtorEq, Int.reduceMul, Int.reduceAdd, Int.reduceSub, Int.reduceMod, Int.reduceDiv, Int.reduceTDiv, Int.reduceTMod, iter_s]
theorem e8 (k at' : Nat) (hli : il.length ≤ 5000) (hb : at' + 2 < il.length) (h0 : okJ nv il at') (h1 : okJ nv il (at' + 1)) (h2 : okJ nv il (at' + 2)) :
    evP (evF cm2 (k + 1)) 8 [V, I, .i at'] = some (.agg (V9 vl (il.getD at' 0).toNat ++ V9 vl (il.getD (at' + 1) 0).toNat ++ V9 vl (il.getD (at' + 2) 0).toNat)) := by
  have x0 := hI.ix (at' : Int) (by omega) (by omega)
  have x1 := hI.ix ((at' + 1 : Nat) : Int) (by omega) (by omega)
  have x2 := hI.ix ((at' + 2 : Nat) : Int) (by omega) (by omega)
  rw [Int.toNat_natCast] at x0 x1 x2
  have r0 := rd_ints il at' (by omega)
  have r0' := rd_ints' il at' (by omega)
  have r1 := rd_ints il (at' + 1) (by omega)
  have r1' := rd_ints' il (at' + 1) (by omega)
  have r2 := rd_ints il (at' + 2) (by omega)
  have r2' := rd_ints' il (at' + 2) (by omega)
  have w1 : IntKind.i64.wrap ((at' : Int) + 1) = ((at' + 1 : Nat) : Int) := by rw [w64 _ (by omega) (by omega)]; omega
  have w2 : IntKind.i64.wrap ((at' : Int) + 2) = ((at' + 2 : Nat) : Int) := by rw [w64 _ (by omega) (by omega)]; omega
  obtain ⟨a, ha⟩ : ∃ a : Nat, il.getD at' 0 = a := ⟨(il.getD at' 0).toNat, by unfold okJ at h0; omega⟩
  obtain ⟨b, hb'⟩ : ∃ b : Nat, il.getD (at' + 1) 0 = b := ⟨(il.getD (at' + 1) 0).toNat, by unfold okJ at h1; omega⟩
  obtain ⟨c, hc⟩ : ∃ c : Nat, il.getD (at' + 2) 0 = c := ⟨(il.getD (at' + 2) 0).toNat, by unfold okJ at h2; omega⟩
  unfold okJ at h0 h1 h2
  rw [ha] at h0 r0 r0' ⊢
  rw [hb'] at h1 r1 r1' ⊢
  rw [hc] at h2 r2 r2' ⊢
  obtain ⟨ra, ia⟩ := ix9 hV a (by omega)
  obtain ⟨rb, ib⟩ := ix9 hV b (by omega)
  obtain ⟨rc, ic⟩ := ix9 hV c (by omega)
  simp only [V9, List.cons_append, List.nil_append] at ia ib ic
  rw [Int.toNat_natCast, Int.toNat_natCast, Int.toNat_natCast]
  generalize ((at' + 1 : Nat) : Int) = p1 at *
  generalize ((at' + 2 : Nat) : Int) = p2 at *
  rw [evP_fun (m := c8) rfl _ _ rfl]
  simp -implicitDefEqProofs (maxSteps := 2000000) only [c8, hV.cells, hI.cells, hV.cl, hI.cl, x0, x1, x2, r0, r0', r1, r1', r2, r2', w1, w2, ia, ib, ic, Nat.le_add_left, push_cast, Nat.reduceAdd, Nat.reduceMul, Nat.reduceSub, Nat.reduceLT, Nat.reduceLeDiff, Nat.reduceEqDiff, Nat.reducePow, Int.reduceToNat, Int.reduceLT, Int.reduceLE, Int.reduceNeg, Int.reduceEq, Int.reducePow, reduceIte, reduceCtorEq, Int.reduceMul, Int.reduceAdd, Int.reduceSub, Int.reduceMod, Int.reduceDiv, Int.reduceTDiv, Int.reduceTMod, iter_s]
  rfl
end
end Go.Proofs.Yteeghebaankmlaa
