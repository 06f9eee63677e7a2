/- Each operation tells what the document says (CellDoes), as the evaluator answers. -/
import Derived.Test.YtlbcandecifkcaaV30
set_option linter.unusedSimpArgs false
set_option linter.unusedVariables false
set_option maxRecDepth 100000
set_option maxHeartbeats 16000000
namespace Go.Proofs.Ytlbcandecifkcaa
open Go
theorem does_last (K : Nat) (m : Nat) (l : List Int) (S : LV) (hS : SlE 5 m l S) (N na np nl r7 : Nat) (s : St) (hs : SD S N na np nl r7 m s) :
    ∃ s', evCode (evF cm K) K 0 c4b0 (cleanN fgD s) = some (.exit 0, s') ∧ ∃ T h, s' = (T, h) ∧ T.length = 172 := by
  obtain ⟨T, h, M, row, L, LS, CS, V, rfl, I, hLi, hci, hT, t1, t5, t7, t8⟩ := hs
  rw [tl172 hT]
  have g1 : ¬ (m : Int) < (m : Int) := by omega
  simp -implicitDefEqProofs only [c4b0, fgD, t1, t5, t7, t8, hS.len, g1, push_cast, Nat.reduceAdd, Nat.reduceMul, Nat.reduceSub, Nat.reduceLT, Nat.reduceLeDiff, Nat.reduceEqDiff, Nat.reducePow, Int.reduceToNat, Int.reduceLT, Int.reduceLE, Int.reduceNeg, Int.reduceEq, Int.reducePow, reduceIte, reduceCtorEq, Int.reduceMul, Int.reduceAdd, Int.reduceSub, Int.reduceMod, Int.reduceDiv, Int.reduceTDiv, Int.reduceTMod, iter_s]
  exact ⟨_, rfl, _, h, rfl, rfl⟩
/-! ### what may not be a memory -/
theorem new_bad (k : Nat) (n a b c : Int) (h : n < 1 ∨ 80 < n) : evP (evF cm (k + 1)) 7 [.i n, .i a, .i b, .i c] = some (.tup [.v (.pointer none), .i 2]) := by
  rw [evP_fun (m := c7) rfl _ _ rfl]
  by_cases h1 : n < 1
  · simp -implicitDefEqProofs only [c7, h1, push_cast, Nat.reduceAdd, Nat.reduceMul, Nat.reduceSub, Nat.reduceLT, Nat.reduceLeDiff, Nat.reduceEqDiff, Nat.reducePow, Int.reduceToNat, Int.reduceLT, Int.reduceLE, Int.reduceNeg, Int.reduceEq, Int.reducePow, reduceIte, reduceCtorEq, Int.reduceMul, Int.reduceAdd, Int.reduceSub, Int.reduceMod, Int.reduceDiv, Int.reduceTDiv, Int.reduceTMod, iter_s]
  · have h2 : 80 < n := by omega
    simp -implicitDefEqProofs only [c7, h1, h2, push_cast, Nat.reduceAdd, Nat.reduceMul, Nat.reduceSub, Nat.reduceLT, Nat.reduceLeDiff, Nat.reduceEqDiff, Nat.reducePow, Int.reduceToNat, Int.reduceLT, Int.reduceLE, Int.reduceNeg, Int.reduceEq, Int.reducePow, reduceIte, reduceCtorEq, Int.reduceMul, Int.reduceAdd, Int.reduceSub, Int.reduceMod, Int.reduceDiv, Int.reduceTDiv, Int.reduceTMod, iter_s]
theorem new_bad3 (k : Nat) (n a b c : Int) (h : ¬ n < 1 ∧ ¬ 80 < n) (ha : ¬ 65536 < a) (hb : ¬ 65536 < b) (hc : ¬ 65536 < c) (hx : a < 0 ∨ b < 0 ∨ c < 0) : evP (evF cm (k + 6)) 7 [.i n, .i a, .i b, .i c] = some (.tup [.v (.pointer none), .i 2]) := by
  rw [evP_fun (m := c7) rfl _ _ rfl]
  obtain ⟨h1, h2⟩ := h
  by_cases a0 : a < 0
  · simp -implicitDefEqProofs only [c7, c7b2, h1, h2, a0, push_cast, Nat.reduceAdd, Nat.reduceMul, Nat.reduceSub, Nat.reduceLT, Nat.reduceLeDiff, Nat.reduceEqDiff, Nat.reducePow, Int.reduceToNat, Int.reduceLT, Int.reduceLE, Int.reduceNeg, Int.reduceEq, Int.reducePow, reduceIte, reduceCtorEq, Int.reduceMul, Int.reduceAdd, Int.reduceSub, Int.reduceMod, Int.reduceDiv, Int.reduceTDiv, Int.reduceTMod, iter_s]
  · by_cases b0 : b < 0
    · simp -implicitDefEqProofs only [c7, c7b2, h1, h2, a0, ha, b0, push_cast, Nat.reduceAdd, Nat.reduceMul, Nat.reduceSub, Nat.reduceLT, Nat.reduceLeDiff, Nat.reduceEqDiff, Nat.reducePow, Int.reduceToNat, Int.reduceLT, Int.reduceLE, Int.reduceNeg, Int.reduceEq, Int.reducePow, reduceIte, reduceCtorEq, Int.reduceMul, Int.reduceAdd, Int.reduceSub, Int.reduceMod, Int.reduceDiv, Int.reduceTDiv, Int.reduceTMod, iter_s]
    · have c0 : c < 0 := by omega
      simp -implicitDefEqProofs only [c7, c7b2, h1, h2, a0, ha, b0, hb, c0, push_cast, Nat.reduceAdd, Nat.reduceMul, Nat.reduceSub, Nat.reduceLT, Nat.reduceLeDiff, Nat.reduceEqDiff, Nat.reducePow, Int.reduceToNat, Int.reduceLT, Int.reduceLE, Int.reduceNeg, Int.reduceEq, Int.reducePow, reduceIte, reduceCtorEq, Int.reduceMul, Int.reduceAdd, Int.reduceSub, Int.reduceMod, Int.reduceDiv, Int.reduceTDiv, Int.reduceTMod, iter_s]
theorem e4 (k m : Nat) (l : List Int) (S : LV) (hS : SlE 5 m l S) (s0 s1 s2 s3 : Int) : ∃ h', evF cm (k + 70000) 4 [.agg [.i s0, .i s1, .i s2, .i s3], S] [] 0 = some (.b true, h') := by
  rw [evH_fun (m := c4) rfl _ _ _ _ rfl]
  have ea := fun k => e6 k
  by_cases hn : (60 : Int) < (m : Int)
  · simp -implicitDefEqProofs only [c4, hS.len, hn, ea, push_cast, Nat.reduceAdd, Nat.reduceMul, Nat.reduceSub, Nat.reduceLT, Nat.reduceLeDiff, Nat.reduceEqDiff, Nat.reducePow, Int.reduceToNat, Int.reduceLT, Int.reduceLE, Int.reduceNeg, Int.reduceEq, Int.reducePow, reduceIte, reduceCtorEq, Int.reduceMul, Int.reduceAdd, Int.reduceSub, Int.reduceMod, Int.reduceDiv, Int.reduceTDiv, Int.reduceTMod]
    exact ⟨_, rfl⟩
  by_cases p1 : 65536 < s1
  · simp -implicitDefEqProofs only [c4, hS.len, hn, p1, ea, push_cast, Nat.reduceAdd, Nat.reduceMul, Nat.reduceSub, Nat.reduceLT, Nat.reduceLeDiff, Nat.reduceEqDiff, Nat.reducePow, Int.reduceToNat, Int.reduceLT, Int.reduceLE, Int.reduceNeg, Int.reduceEq, Int.reducePow, reduceIte, reduceCtorEq, Int.reduceMul, Int.reduceAdd, Int.reduceSub, Int.reduceMod, Int.reduceDiv, Int.reduceTDiv, Int.reduceTMod]
    exact ⟨_, rfl⟩
  by_cases p2 : 65536 < s2
  · simp -implicitDefEqProofs only [c4, hS.len, hn, p1, p2, ea, push_cast, Nat.reduceAdd, Nat.reduceMul, Nat.reduceSub, Nat.reduceLT, Nat.reduceLeDiff, Nat.reduceEqDiff, Nat.reducePow, Int.reduceToNat, Int.reduceLT, Int.reduceLE, Int.reduceNeg, Int.reduceEq, Int.reducePow, reduceIte, reduceCtorEq, Int.reduceMul, Int.reduceAdd, Int.reduceSub, Int.reduceMod, Int.reduceDiv, Int.reduceTDiv, Int.reduceTMod]
    exact ⟨_, rfl⟩
  by_cases p3 : 65536 < s3
  · simp -implicitDefEqProofs only [c4, hS.len, hn, p1, p2, p3, ea, push_cast, Nat.reduceAdd, Nat.reduceMul, Nat.reduceSub, Nat.reduceLT, Nat.reduceLeDiff, Nat.reduceEqDiff, Nat.reducePow, Int.reduceToNat, Int.reduceLT, Int.reduceLE, Int.reduceNeg, Int.reduceEq, Int.reducePow, reduceIte, reduceCtorEq, Int.reduceMul, Int.reduceAdd, Int.reduceSub, Int.reduceMod, Int.reduceDiv, Int.reduceTDiv, Int.reduceTMod]
    exact ⟨_, rfl⟩
  by_cases q0 : s0 < 1
  · have eb := fun k => new_bad k s0 s1 s2 s3 (.inl q0)
    simp -implicitDefEqProofs only [c4, hS.len, hn, p1, p2, p3, q0, eb, ea, push_cast, Nat.reduceAdd, Nat.reduceMul, Nat.reduceSub, Nat.reduceLT, Nat.reduceLeDiff, Nat.reduceEqDiff, Nat.reducePow, Int.reduceToNat, Int.reduceLT, Int.reduceLE, Int.reduceNeg, Int.reduceEq, Int.reducePow, reduceIte, reduceCtorEq, Int.reduceMul, Int.reduceAdd, Int.reduceSub, Int.reduceMod, Int.reduceDiv, Int.reduceTDiv, Int.reduceTMod]
    exact ⟨_, rfl⟩
  by_cases q1 : 80 < s0
  · have eb := fun k => new_bad k s0 s1 s2 s3 (.inr q1)
    simp -implicitDefEqProofs only [c4, hS.len, hn, p1, p2, p3, q0, q1, eb, ea, push_cast, Nat.reduceAdd, Nat.reduceMul, Nat.reduceSub, Nat.reduceLT, Nat.reduceLeDiff, Nat.reduceEqDiff, Nat.reducePow, Int.reduceToNat, Int.reduceLT, Int.reduceLE, Int.reduceNeg, Int.reduceEq, Int.reducePow, reduceIte, reduceCtorEq, Int.reduceMul, Int.reduceAdd, Int.reduceSub, Int.reduceMod, Int.reduceDiv, Int.reduceTDiv, Int.reduceTMod]
    exact ⟨_, rfl⟩
  by_cases q2 : s1 < 0
  · have eb := fun k => new_bad3 k s0 s1 s2 s3 ⟨q0, q1⟩ p1 p2 p3 (.inl q2)
    simp -implicitDefEqProofs only [c4, hS.len, hn, p1, p2, p3, q0, q1, q2, eb, ea, push_cast, Nat.reduceAdd, Nat.reduceMul, Nat.reduceSub, Nat.reduceLT, Nat.reduceLeDiff, Nat.reduceEqDiff, Nat.reducePow, Int.reduceToNat, Int.reduceLT, Int.reduceLE, Int.reduceNeg, Int.reduceEq, Int.reducePow, reduceIte, reduceCtorEq, Int.reduceMul, Int.reduceAdd, Int.reduceSub, Int.reduceMod, Int.reduceDiv, Int.reduceTDiv, Int.reduceTMod]
    exact ⟨_, rfl⟩
  by_cases q3 : s2 < 0
  · have eb := fun k => new_bad3 k s0 s1 s2 s3 ⟨q0, q1⟩ p1 p2 p3 (.inr (.inl q3))
    simp -implicitDefEqProofs only [c4, hS.len, hn, p1, p2, p3, q0, q1, q2, q3, eb, ea, push_cast, Nat.reduceAdd, Nat.reduceMul, Nat.reduceSub, Nat.reduceLT, Nat.reduceLeDiff, Nat.reduceEqDiff, Nat.reducePow, Int.reduceToNat, Int.reduceLT, Int.reduceLE, Int.reduceNeg, Int.reduceEq, Int.reducePow, reduceIte, reduceCtorEq, Int.reduceMul, Int.reduceAdd, Int.reduceSub, Int.reduceMod, Int.reduceDiv, Int.reduceTDiv, Int.reduceTMod]
    exact ⟨_, rfl⟩
  by_cases q4 : s3 < 0
  · have eb := fun k => new_bad3 k s0 s1 s2 s3 ⟨q0, q1⟩ p1 p2 p3 (.inr (.inr q4))
    simp -implicitDefEqProofs only [c4, hS.len, hn, p1, p2, p3, q0, q1, q2, q3, q4, eb, ea, push_cast, Nat.reduceAdd, Nat.reduceMul, Nat.reduceSub, Nat.reduceLT, Nat.reduceLeDiff, Nat.reduceEqDiff, Nat.reducePow, Int.reduceToNat, Int.reduceLT, Int.reduceLE, Int.reduceNeg, Int.reduceEq, Int.reducePow, reduceIte, reduceCtorEq, Int.reduceMul, Int.reduceAdd, Int.reduceSub, Int.reduceMod, Int.reduceDiv, Int.reduceTDiv, Int.reduceTMod]
    exact ⟨_, rfl⟩
  obtain ⟨N, rfl⟩ : ∃ N : Nat, s0 = N := ⟨s0.toNat, by omega⟩
  obtain ⟨na, rfl⟩ : ∃ N : Nat, s1 = N := ⟨s1.toNat, by omega⟩
  obtain ⟨np, rfl⟩ : ∃ N : Nat, s2 = N := ⟨s2.toNat, by omega⟩
  obtain ⟨nl, rfl⟩ : ∃ N : Nat, s3 = N := ⟨s3.toNat, by omega⟩
  obtain ⟨h0, e0, H0⟩ := new_iso (k + 69998) N na np nl (by omega) (by omega) (by omega) (by omega) (by omega) (by omega)
  have e0p : evP (evF cm (k + 69999)) 7 [.i N, .i na, .i np, .i nl] = none := by
    have e0' : evF cm (k + 69999) 7 [.i N, .i na, .i np, .i nl] [] 0 = some (.tup [.p 3 0 0, .i 0], h0) := e0
    unfold evP; rw [e0']; rfl
  have H1 := mem_shift H0 [⟨0, [.i N, .i na, .i np, .i nl]⟩]
  generalize hg : [(⟨0, [.i N, .i na, .i np, .i nl]⟩ : Row)] ++ shR [(⟨0, [.i N, .i na, .i np, .i nl]⟩ : Row)].length h0 = g1 at H1
  have hg' : (⟨0, [.i N, .i na, .i np, .i nl]⟩ : Row) :: shR 1 h0 = g1 := hg
  have rg : rowOf g1 0 0 = some [.i N, .i na, .i np, .i nl] := by rw [← hg']; rfl
  have key : ∀ s I, iter (evCode (evF cm (k + 69999)) (k + 69999) 0 c4b0) (cleanN fgD) (k + 69999) s = I → SD S N na np nl g1.length 0 s → ∃ T h, I = some (.exit 0, (T, h)) ∧ T.length = 172 := by
    intro s I hI hs
    have hm : m ≤ 60 := by omega
    have := @iter_until (evCode (evF cm (k + 69999)) (k + 69999) 0 c4b0) (cleanN fgD) (SD S N na np nl g1.length) (fun s' => ∃ T h, s' = (T, h) ∧ T.length = 172) (fun _ => False) m 0
      (fun i s hi hs => .inl (does_round (k + 69999) (by omega) m l S hS hm N na np nl g1.length (by omega) i s hi hs)) (fun s hs => does_last (k + 69999) m l S hS N na np nl g1.length s hs) m 0 s (k + 69999) (by omega) (by omega) hs
    rcases this with ⟨s', h1, T, h, rfl, h2⟩ | ⟨_, _, hf⟩
    · exact ⟨T, h, hI.symm.trans h1, h2⟩
    · exact hf.elim
  have rz : ∀ cs, rowOf (g1 ++ [⟨0, cs⟩]) g1.length 0 = some cs := fun cs => rowOf_app_eq
  simp -implicitDefEqProofs only [c4, hS.len, hn, p1, p2, p3, q0, q1, q2, q3, q4, e0, e0p, hg', rg, rz, app1_0, push_cast, Nat.reduceAdd, Nat.reduceMul, Nat.reduceSub, Nat.reduceLT, Nat.reduceLeDiff, Nat.reduceEqDiff, Nat.reducePow, Int.reduceToNat, Int.reduceLT, Int.reduceLE, Int.reduceNeg, Int.reduceEq, Int.reducePow, reduceIte, reduceCtorEq, Int.reduceMul, Int.reduceAdd, Int.reduceSub, Int.reduceMod, Int.reduceDiv, Int.reduceTDiv, Int.reduceTMod]
  generalize hI : iter _ _ _ _ = I
  have I0 : Inv30 (g1 ++ [⟨0, [.i N, .i na, .i np, .i nl, .nils, .nils]⟩]) N na np nl g1.length (AM.new N na np nl) (fun τ => 1 + rowN τ) [] .nils .nils (fun _ _ => 0) :=
    ⟨H1.app _, ⟨rfl, rfl, rfl, rfl⟩, rel_new _ _ _ _, ⟨.nil rfl rfl, .inl ⟨rfl, .inl rfl⟩, fun _ => rfl, by simp⟩, rowOf_app_eq, own_lt H1 (Nat.le_refl _)⟩
  obtain ⟨T, h, hI2, hT⟩ := key _ _ hI ⟨_, _, _, _, _, _, _, _, rfl, I0, by simp, by simp [AM.new], rfl, rfl, rfl, rfl, rfl⟩
  subst hI2
  rw [tl172 hT]
  simp -implicitDefEqProofs only [ea, push_cast, Nat.reduceAdd, Nat.reduceMul, Nat.reduceSub, Nat.reduceLT, Nat.reduceLeDiff, Nat.reduceEqDiff, Nat.reducePow, Int.reduceToNat, Int.reduceLT, Int.reduceLE, Int.reduceNeg, Int.reduceEq, Int.reducePow, reduceIte, reduceCtorEq, Int.reduceMul, Int.reduceAdd, Int.reduceSub, Int.reduceMod, Int.reduceDiv, Int.reduceTDiv, Int.reduceTMod]
  exact ⟨_, rfl⟩
end Go.Proofs.Ytlbcandecifkcaa
