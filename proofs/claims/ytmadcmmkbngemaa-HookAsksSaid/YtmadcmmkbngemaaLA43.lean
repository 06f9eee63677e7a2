/- The first error ends a chain (HookChains), as the evaluator answers: the chain. -/
import Derived.Test.YtmadcmmkbngemaaKA43
set_option linter.unusedSimpArgs false
set_option linter.unusedVariables false
set_option maxRecDepth 100000
set_option maxHeartbeats 8000000
namespace Go.Proofs.Ytmadcmmkbngemaa
open Go
theorem tlT {n : Nat} {T : List LV} (h : T.length = n) : T = (List.range n).map (getT T) := by subst h; exact tlist T
theorem tl36 {T : List LV} (h : T.length = 36) : T = [getT T 0, getT T 1, getT T 2, getT T 3, getT T 4, getT T 5, getT T 6, getT T 7, getT T 8, getT T 9, getT T 10, getT T 11, getT T 12, getT T 13, getT T 14, getT T 15, getT T 16, getT T 17, getT T 18, getT T 19, getT T 20, getT T 21, getT T 22, getT T 23, getT T 24, getT T 25, getT T 26, getT T 27, getT T 28, getT T 29, getT T 30, getT T 31, getT T 32, getT T 33, getT T 34, getT T 35] := tlT h
theorem sh_closed (kind n : Int) : closed (sh kind n) = true := by simp [sh, closed, closedL]
theorem sh_atom (kind n : Int) : atomB (sh kind n) = true := rfl
def pxL (r g b a z s : Int) : List LV := [.i r, .i g, .i b, .i a, .i z, .i s]
theorem px_eq (r g b a z s : Int) : px r g b a z s = .agg (pxL r g b a z s) := rfl
def fgC : List Nat := [34, 33, 9, 32, 31, 30, 29, 28, 27, 22, 26, 25, 24, 23, 21]
def SC (kind n times : Int) (P : Nat → List LV) (i : Nat) (s : St) : Prop := ∃ T gg, s = (T, ⟨0, P i⟩ :: ⟨0, [.i 0, .i 0, .i 0, .i 0, .i 0]⟩ :: ⟨0, [.i 0, .i 0, .i 0, .i 0, .i 0, .i 0]⟩ :: gg) ∧ T.length = 36 ∧ getT T 0 = .ifc 31 (sh kind n) ∧ getT T 5 = .p 0 0 0 ∧ getT T 6 = .p 1 0 0 ∧ getT T 8 = .p 2 0 0 ∧ getT T 19 = .i times ∧ getT T 20 = .i i
section
variable {kind n r g b a z s times : Int}
theorem chain_bad (k : Nat) (h : times < 0 ∨ 100 < times) : evP (evF cm2 (k + 1)) 7 [.ifc 31 (sh kind n), px r g b a z s, fr0, .i times] = some (.tup [px 0 0 0 0 0 0, .i 2]) := by
  unfold px fr0
  rw [evP_fun (m := c7) rfl _ _ rfl]
  by_cases h1 : times < 0
  · simp -implicitDefEqProofs only [c7, h1, push_cast, Nat.reduceAdd, Nat.reduceMul, Nat.reduceSub, Nat.reduceLT, Nat.reduceLeDiff, Nat.reduceEqDiff, Nat.reducePow, Int.reduceToNat, Int.reduceLT, Int.reduceLE, Int.reduceNeg, Int.reduceEq, Int.reducePow, reduceIte, reduceCtorEq, Int.reduceMul, Int.reduceAdd, Int.reduceSub, Int.reduceMod, Int.reduceDiv, Int.reduceTDiv, Int.reduceTMod, iter_s]
  · have h2 : 100 < times := by omega
    simp -implicitDefEqProofs only [c7, h1, h2, push_cast, Nat.reduceAdd, Nat.reduceMul, Nat.reduceSub, Nat.reduceLT, Nat.reduceLeDiff, Nat.reduceEqDiff, Nat.reducePow, Int.reduceToNat, Int.reduceLT, Int.reduceLE, Int.reduceNeg, Int.reduceEq, Int.reducePow, reduceIte, reduceCtorEq, Int.reduceMul, Int.reduceAdd, Int.reduceSub, Int.reduceMod, Int.reduceDiv, Int.reduceTDiv, Int.reduceTMod, iter_s]
theorem chain_round (k : Nat) (N : Nat) (hN : N ≤ 100) (ht : times = N) {P : Nat → List LV} {r1 g1 b1 a1 z1 s1 r2 g2 b2 a2 z2 s2 : Int} (i : Nat) (hP : P i = pxL r1 g1 b1 a1 z1 s1) (hQ : P (i + 1) = pxL r2 g2 b2 a2 z2 s2) (hA : ansA kind n r1 g1 b1 a1 z1 s1 = some (.tup [px r2 g2 b2 a2 z2 s2, .i 0])) (st : St) (hi : i < N) (hs : SC kind n times P i st) :
    ∃ s', evCode (evF cm2 (k + 1)) (k + 1) 0 c7b0 (cleanN fgC st) = some (.nrm, s') ∧ SC kind n times P (i + 1) s' := by
  obtain ⟨T, gg, rfl, hT, t0, t5, t6, t8, t19, t20⟩ := hs
  rw [tl36 hT, hP]
  have g1' : (i : Int) < times := by omega
  have w1 : IntKind.i64.wrap ((i : Int) + 1) = (i : Int) + 1 := w64 _ (by omega) (by omega)
  have e := e11 k kind n r1 g1 b1 a1 z1 s1 _ hA (by simp [px, closed, closedL])
  have cs := sh_closed kind n
  have ca := sh_atom kind n
  unfold px fr0 at e
  simp only [pxL]
  have rz : ∀ cs, rowOf (gg ++ [⟨0, cs⟩]) gg.length 0 = some cs := fun cs => by unfold rowOf; rw [List.getElem?_append_right (Nat.le_refl _)]; simp
  have sz : ∀ a x : Row, (gg ++ [a]).set gg.length x = gg ++ [x] := fun a x => by rw [List.set_append_right _ _ (Nat.le_refl _), Nat.sub_self]; rfl
  simp -implicitDefEqProofs only [c7b0, fgC, t0, t5, t6, t8, t19, t20, g1', w1, e, cs, ca, rz, sz, push_cast, Nat.reduceAdd, Nat.reduceMul, Nat.reduceSub, Nat.reduceLT, Nat.reduceLeDiff, Nat.reduceEqDiff, Nat.reducePow, Int.reduceToNat, Int.reduceLT, Int.reduceLE, Int.reduceNeg, Int.reduceEq, Int.reducePow, reduceIte, reduceCtorEq, Int.reduceMul, Int.reduceAdd, Int.reduceSub, Int.reduceMod, Int.reduceDiv, Int.reduceTDiv, Int.reduceTMod, iter_s]
  refine ⟨_, rfl, ?_⟩
  unfold SC
  rw [hQ]
  exact ⟨_, _, rfl, rfl, rfl, rfl, rfl, rfl, rfl, rfl⟩
theorem chain_last (k : Nat) (N : Nat) (ht : times = N) {P : Nat → List LV} (st : St) (hs : SC kind n times P N st) :
    ∃ s', evCode (evF cm2 k) k 0 c7b0 (cleanN fgC st) = some (.exit 0, s') ∧ SC kind n times P N s' := by
  obtain ⟨T, gg, rfl, hT, t0, t5, t6, t8, t19, t20⟩ := hs
  rw [tl36 hT]
  have g1' : ¬ (N : Int) < times := by omega
  simp -implicitDefEqProofs only [c7b0, fgC, t0, t5, t6, t8, t19, t20, g1', push_cast, Nat.reduceAdd, Nat.reduceMul, Nat.reduceSub, Nat.reduceLT, Nat.reduceLeDiff, Nat.reduceEqDiff, Nat.reducePow, Int.reduceToNat, Int.reduceLT, Int.reduceLE, Int.reduceNeg, Int.reduceEq, Int.reducePow, reduceIte, reduceCtorEq, Int.reduceMul, Int.reduceAdd, Int.reduceSub, Int.reduceMod, Int.reduceDiv, Int.reduceTDiv, Int.reduceTMod, iter_s]
  exact ⟨_, rfl, _, _, rfl, rfl, rfl, rfl, rfl, rfl, rfl, rfl⟩
/-- All is well: the pixel behind the first asking stays. -/
theorem chain_fine (k : Nat) (N : Nat) (hN : N ≤ 100) (ht : times = N) {r2 g2 b2 a2 z2 s2 : Int} (h1 : ansA kind n r g b a z s = some (.tup [px r2 g2 b2 a2 z2 s2, .i 0])) (h2 : ansA kind n r2 g2 b2 a2 z2 s2 = some (.tup [px r2 g2 b2 a2 z2 s2, .i 0])) :
    evP (evF cm2 (k + 202)) 7 [.ifc 31 (sh kind n), px r g b a z s, fr0, .i times] = some (.tup [if N = 0 then px r g b a z s else px r2 g2 b2 a2 z2 s2, .i 0]) := by
  let P : Nat → List LV := fun i => if i = 0 then pxL r g b a z s else pxL r2 g2 b2 a2 z2 s2
  have key : ∀ st I, iter (evCode (evF cm2 (k + 201)) (k + 201) 0 c7b0) (cleanN fgC) (k + 201) st = I → SC kind n times P 0 st → ∃ s', I = some (.exit 0, s') ∧ SC kind n times P N s' := by
    intro st I hI hs
    obtain ⟨s', h1, h2⟩ := iter_count (fun i st hi hs => by
      by_cases h0 : i = 0
      · subst h0; exact chain_round (k + 200) N hN ht 0 rfl rfl h1 st hi hs
      · have e1 : P i = pxL r2 g2 b2 a2 z2 s2 := if_neg h0
        exact chain_round (k + 200) N hN ht i e1 (if_neg (by omega)) h2 st hi hs) (fun st hs => chain_last (k + 201) N ht st hs) N 0 st (k + 201) (by omega) (by omega) hs
    exact ⟨s', hI.symm.trans h1, h2⟩
  unfold px fr0
  rw [evP_fun (m := c7) rfl _ _ rfl]
  have gg1 : ¬ times < 0 := by omega
  have gg2 : ¬ 100 < times := by omega
  simp -implicitDefEqProofs only [c7, gg1, gg2, push_cast, Nat.reduceAdd, Nat.reduceMul, Nat.reduceSub, Nat.reduceLT, Nat.reduceLeDiff, Nat.reduceEqDiff, Nat.reducePow, Int.reduceToNat, Int.reduceLT, Int.reduceLE, Int.reduceNeg, Int.reduceEq, Int.reducePow, reduceIte, reduceCtorEq, Int.reduceMul, Int.reduceAdd, Int.reduceSub, Int.reduceMod, Int.reduceDiv, Int.reduceTDiv, Int.reduceTMod]
  generalize hI : iter _ _ _ _ = I
  obtain ⟨s', hI2, T, gg, rfl, hT, t0, t5, t6, t8, t19, t20⟩ := key _ _ hI ⟨_, [], rfl, rfl, rfl, rfl, rfl, rfl, rfl, rfl⟩
  subst hI2
  rw [tl36 hT]
  by_cases h0 : N = 0
  · have hP : P N = pxL r g b a z s := if_pos h0
    rw [hP]
    simp -implicitDefEqProofs only [t5, t8, h0, pxL, push_cast, Nat.reduceAdd, Nat.reduceMul, Nat.reduceSub, Nat.reduceLT, Nat.reduceLeDiff, Nat.reduceEqDiff, Nat.reducePow, Int.reduceToNat, Int.reduceLT, Int.reduceLE, Int.reduceNeg, Int.reduceEq, Int.reducePow, reduceIte, reduceCtorEq, Int.reduceMul, Int.reduceAdd, Int.reduceSub, Int.reduceMod, Int.reduceDiv, Int.reduceTDiv, Int.reduceTMod]
  · have hP : P N = pxL r2 g2 b2 a2 z2 s2 := if_neg h0
    rw [hP]
    simp -implicitDefEqProofs only [t5, t8, h0, pxL, push_cast, Nat.reduceAdd, Nat.reduceMul, Nat.reduceSub, Nat.reduceLT, Nat.reduceLeDiff, Nat.reduceEqDiff, Nat.reducePow, Int.reduceToNat, Int.reduceLT, Int.reduceLE, Int.reduceNeg, Int.reduceEq, Int.reducePow, reduceIte, reduceCtorEq, Int.reduceMul, Int.reduceAdd, Int.reduceSub, Int.reduceMod, Int.reduceDiv, Int.reduceTDiv, Int.reduceTMod]
/-- The first error ends it. -/
theorem chain_err (k : Nat) (N : Nat) (hN : N ≤ 100) (h0 : 0 < N) (ht : times = N) {e0 : Int} (he : e0 ≠ 0) (h1 : ansA kind n r g b a z s = some (.tup [px 0 0 0 0 0 0, .i e0])) :
    evP (evF cm2 (k + 202)) 7 [.ifc 31 (sh kind n), px r g b a z s, fr0, .i times] = some (.tup [px 0 0 0 0 0 0, .i e0]) := by
  have e := e11 (k + 200) kind n r g b a z s _ h1 (by simp [px, closed, closedL])
  have cs := sh_closed kind n
  have ca := sh_atom kind n
  have he' : ¬ e0 = 0 := he
  unfold px fr0 at e
  unfold px fr0
  rw [evP_fun (m := c7) rfl _ _ rfl]
  have gg1 : ¬ times < 0 := by omega
  have gg2 : ¬ 100 < times := by omega
  have g3 : (0 : Int) < times := by omega
  simp -implicitDefEqProofs only [c7, c7b0, gg1, gg2, g3, e, cs, ca, he', push_cast, Nat.reduceAdd, Nat.reduceMul, Nat.reduceSub, Nat.reduceLT, Nat.reduceLeDiff, Nat.reduceEqDiff, Nat.reducePow, Int.reduceToNat, Int.reduceLT, Int.reduceLE, Int.reduceNeg, Int.reduceEq, Int.reducePow, reduceIte, reduceCtorEq, Int.reduceMul, Int.reduceAdd, Int.reduceSub, Int.reduceMod, Int.reduceDiv, Int.reduceTDiv, Int.reduceTMod, iter_s]
theorem chain_zero (k : Nat) (h : times = 0) : evP (evF cm2 (k + 202)) 7 [.ifc 31 (sh kind n), px r g b a z s, fr0, .i times] = some (.tup [px r g b a z s, .i 0]) := by
  subst h
  have cs := sh_closed kind n
  have ca := sh_atom kind n
  unfold px fr0
  rw [evP_fun (m := c7) rfl _ _ rfl]
  simp -implicitDefEqProofs only [c7, c7b0, cs, ca, push_cast, Nat.reduceAdd, Nat.reduceMul, Nat.reduceSub, Nat.reduceLT, Nat.reduceLeDiff, Nat.reduceEqDiff, Nat.reducePow, Int.reduceToNat, Int.reduceLT, Int.reduceLE, Int.reduceNeg, Int.reduceEq, Int.reducePow, reduceIte, reduceCtorEq, Int.reduceMul, Int.reduceAdd, Int.reduceSub, Int.reduceMod, Int.reduceDiv, Int.reduceTDiv, Int.reduceTMod, iter_s]
end
end Go.Proofs.Ytmadcmmkbngemaa
