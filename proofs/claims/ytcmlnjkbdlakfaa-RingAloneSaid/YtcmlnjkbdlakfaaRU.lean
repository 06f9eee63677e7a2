/- A ring's operations that are done one behind the other do what the document says (RingAlone), as the evaluator answers: the whole. -/
import Derived.Test.YtcmlnjkbdlakfaaRT
set_option linter.unusedSimpArgs false
set_option linter.unusedVariables false
set_option linter.unusedSectionVars false
set_option maxRecDepth 100000
set_option maxHeartbeats 16000000
namespace Go.Proofs.Ytcmlnjkbdlakfaa
open Go
theorem rounds (K : Nat) (hK : 400 ≤ K) (l : List Int) (S : LV) (hS : SlI l S) (hm : l.length ≤ 40) (k : Nat) (hk : 0 < k ∧ k ≤ 8) (i : Nat) (s : St) (hi : i < l.length) (hs : SAl S k i s) :
    ∃ s', evCode (evF cm K) K 0 c4b0 (cleanN fgAl s) = some (.nrm, s') ∧ SAl S k (i + 1) s' := by
  obtain ⟨a1, a2⟩ := and3 (l.getD i 0)
  have hc : bits .and .i64 (l.getD i 0) 3 = 0 ∨ bits .and .i64 (l.getD i 0) 3 = 1 ∨ bits .and .i64 (l.getD i 0) 3 = 2 ∨ bits .and .i64 (l.getD i 0) 3 = 3 := by omega
  rcases hc with h | h | h | h
  · exact round0 K hK l S hS hm k hk i s hi hs h
  · exact round1 K hK l S hS hm k hk i s hi hs h
  · exact round2 K hK l S hS hm k hk i s hi hs h
  · exact round3 K hK l S hS hm k hk i s hi hs h
theorem alone_last (K : Nat) (l : List Int) (S : LV) (hS : SlI l S) (k : Nat) (s : St) (hs : SAl S k l.length s) :
    ∃ s', evCode (evF cm K) K 0 c4b0 (cleanN fgAl s) = some (.exit 0, s') ∧ ∃ T h, s' = (T, h) ∧ T.length = 220 ∧ h.isEmpty = false := by
  obtain ⟨T, h, M, row, rr, xr, R, t, L, stp, rfl, I, hT, t1, t5, t7, t9, t10⟩ := hs
  rw [tl220 hT]
  have g1 : ¬ (l.length : Int) < (l.length : Int) := by omega
  simp -implicitDefEqProofs (maxSteps := 3000000) only [c4b0, fgAl, t1, t5, t7, t9, t10, hS.len, g1, push_cast, Nat.reduceAdd, Nat.reduceMul, Nat.reduceSub, Nat.reduceLT, Nat.reduceLeDiff, Nat.reduceEqDiff, Nat.reducePow, Int.reduceToNat, Int.reduceLT, Int.reduceLE, Int.reduceNeg, Int.reduceEq, Int.reducePow, reduceIte, reduceCtorEq, Int.reduceMul, Int.reduceAdd, Int.reduceSub, Int.reduceMod, Int.reduceDiv, Int.reduceTDiv, Int.reduceTMod, iter_s]
  exact ⟨_, rfl, _, h, rfl, rfl, I.mem.ne0⟩
theorem new_no (k : Nat) (K : Int) (h : K < 1 ∨ 8 < K) : evP (evF cm (k + 1)) 9 [.i K, .i 1, .i 1, .i 1] = some (.tup [.v (.pointer none), .i 2]) := by
  rw [evP_fun (m := c9) rfl _ _ rfl]
  by_cases h1 : K < 1
  · simp -implicitDefEqProofs only [c9, h1, push_cast, Nat.reduceAdd, Nat.reduceMul, Nat.reduceSub, Nat.reduceLT, Nat.reduceLeDiff, Nat.reduceEqDiff, Nat.reducePow, Int.reduceToNat, Int.reduceLT, Int.reduceLE, Int.reduceNeg, Int.reduceEq, Int.reducePow, reduceIte, reduceCtorEq, Int.reduceMul, Int.reduceAdd, Int.reduceSub, Int.reduceMod, Int.reduceDiv, Int.reduceTDiv, Int.reduceTMod, iter_s]
  · have h2 : 8 < K := by omega
    simp -implicitDefEqProofs only [c9, h1, h2, push_cast, Nat.reduceAdd, Nat.reduceMul, Nat.reduceSub, Nat.reduceLT, Nat.reduceLeDiff, Nat.reduceEqDiff, Nat.reducePow, Int.reduceToNat, Int.reduceLT, Int.reduceLE, Int.reduceNeg, Int.reduceEq, Int.reducePow, reduceIte, reduceCtorEq, Int.reduceMul, Int.reduceAdd, Int.reduceSub, Int.reduceMod, Int.reduceDiv, Int.reduceTDiv, Int.reduceTMod, iter_s]
theorem new_ring (k : Nat) (K : Int) (h : 1 ≤ K ∧ K ≤ 8) : evF cm (k + 1) 9 [.i K, .i 1, .i 1, .i 1] [] 0 = some (.tup [.p 0 0 0, .i 0], [⟨0, [.i K, .i 1, .i 1, .i 1, .i 0, .i 0]⟩]) := by
  have h1 : ¬ K < 1 := by omega
  have h2 : ¬ 8 < K := by omega
  rw [evH_fun (m := c9) rfl _ _ _ _ rfl]
  simp -implicitDefEqProofs only [c9, h1, h2, push_cast, Nat.reduceAdd, Nat.reduceMul, Nat.reduceSub, Nat.reduceLT, Nat.reduceLeDiff, Nat.reduceEqDiff, Nat.reducePow, Int.reduceToNat, Int.reduceLT, Int.reduceLE, Int.reduceNeg, Int.reduceEq, Int.reducePow, reduceIte, reduceCtorEq, Int.reduceMul, Int.reduceAdd, Int.reduceSub, Int.reduceMod, Int.reduceDiv, Int.reduceTDiv, Int.reduceTMod, iter_s]
theorem e4 (n : Nat) (K : Int) (l : List Int) (S : LV) (hS : SlI l S) : ∃ h', evF cm (n + 600) 4 [.i K, S] [] 0 = some (.b true, h') := by
  rw [evH_fun (m := c4) rfl _ _ _ _ rfl]
  have ea : ∀ k, evP (evF cm (k + 200)) 6 [] = some (.b true) := e6
  by_cases hn : (40 : Int) < (l.length : Int)
  · simp -implicitDefEqProofs only [c4, hS.len, ea, hn, push_cast, Nat.reduceAdd, Nat.reduceMul, Nat.reduceSub, Nat.reduceLT, Nat.reduceLeDiff, Nat.reduceEqDiff, Nat.reducePow, Int.reduceToNat, Int.reduceLT, Int.reduceLE, Int.reduceNeg, Int.reduceEq, Int.reducePow, reduceIte, reduceCtorEq, Int.reduceMul, Int.reduceAdd, Int.reduceSub, Int.reduceMod, Int.reduceDiv, Int.reduceTDiv, Int.reduceTMod]
    exact ⟨_, rfl⟩
  by_cases h1 : K < 1
  · have en := fun k => new_no k K (.inl h1)
    simp -implicitDefEqProofs only [c4, hS.len, ea, hn, en, h1, push_cast, Nat.reduceAdd, Nat.reduceMul, Nat.reduceSub, Nat.reduceLT, Nat.reduceLeDiff, Nat.reduceEqDiff, Nat.reducePow, Int.reduceToNat, Int.reduceLT, Int.reduceLE, Int.reduceNeg, Int.reduceEq, Int.reducePow, reduceIte, reduceCtorEq, Int.reduceMul, Int.reduceAdd, Int.reduceSub, Int.reduceMod, Int.reduceDiv, Int.reduceTDiv, Int.reduceTMod]
    exact ⟨_, rfl⟩
  by_cases h2 : 8 < K
  · have en := fun k => new_no k K (.inr h2)
    simp -implicitDefEqProofs only [c4, hS.len, ea, hn, en, h1, h2, push_cast, Nat.reduceAdd, Nat.reduceMul, Nat.reduceSub, Nat.reduceLT, Nat.reduceLeDiff, Nat.reduceEqDiff, Nat.reducePow, Int.reduceToNat, Int.reduceLT, Int.reduceLE, Int.reduceNeg, Int.reduceEq, Int.reducePow, reduceIte, reduceCtorEq, Int.reduceMul, Int.reduceAdd, Int.reduceSub, Int.reduceMod, Int.reduceDiv, Int.reduceTDiv, Int.reduceTMod]
    exact ⟨_, rfl⟩
  obtain ⟨k, rfl⟩ : ∃ k : Nat, K = k := ⟨K.toNat, by omega⟩
  have hk : 0 < k ∧ k ≤ 8 := by omega
  have en := fun a => new_ring a k (by omega)
  have enp : ∀ a, evP (evF cm (a + 1)) 9 [.i k, .i 1, .i 1, .i 1] = none := fun a => by unfold evP; rw [en]; rfl
  obtain ⟨na, hna⟩ : ∃ na : Nat, na = k + 4 := ⟨_, rfl⟩
  obtain ⟨np, hnp⟩ : ∃ np : Nat, np = k + 2 := ⟨_, rfl⟩
  have u1 : IntKind.i64.wrap ((k : Int) + 4) = (na : Int) := by rw [w64 _ (by omega) (by omega)]; omega
  have u2 : IntKind.i64.wrap ((k : Int) + 2) = (np : Int) := by rw [w64 _ (by omega) (by omega)]; omega
  obtain ⟨h0, e0, H0⟩ := new_iso (n + 598) 3 na np 2 (by omega) (by omega) (by omega) (by omega) (by omega) (by omega)
  have z3 : ((3 : Nat) : Int) = 3 := rfl
  have z2 : ((2 : Nat) : Int) = 2 := rfl
  rw [z3, z2] at e0
  have e0' : evF cm (n + 599) 8 [.i 3, .i na, .i np, .i 2] [] 0 = some (.tup [.p 3 0 0, .i 0], h0) := e0
  have e0p : evP (evF cm (n + 599)) 8 [.i 3, .i na, .i np, .i 2] = none := by
    unfold evP; rw [e0']; rfl
  have H1 := mem_shift H0 [(⟨0, [.i k, .i 1, .i 1, .i 1, .i 0, .i 0]⟩ : Row)]
  generalize hg : shR ([(⟨0, [.i k, .i 1, .i 1, .i 1, .i 0, .i 0]⟩ : Row)]).length h0 = g1 at H1
  have hg' : shR 1 h0 = g1 := hg
  have key : ∀ s I, iter (evCode (evF cm (n + 599)) (n + 599) 0 c4b0) (cleanN fgAl) (n + 599) s = I → SAl S k 0 s → ∃ T h, I = some (.exit 0, (T, h)) ∧ T.length = 220 ∧ h.isEmpty = false := by
    intro s I hI hs
    have := @iter_until (evCode (evF cm (n + 599)) (n + 599) 0 c4b0) (cleanN fgAl) (SAl S k) (fun s' => ∃ T h, s' = (T, h) ∧ T.length = 220 ∧ h.isEmpty = false) (fun _ => False) l.length 0
      (fun i s hi hs => .inl (rounds (n + 599) (by omega) l S hS (by omega) k hk i s hi hs)) (fun s hs => alone_last (n + 599) l S hS k s hs) l.length 0 s (n + 599) (by omega) (by omega) hs
    rcases this with ⟨s', h1, T, h, rfl, h2⟩ | ⟨_, _, hf⟩
    · exact ⟨T, h, hI.symm.trans h1, h2⟩
    · exact hf.elim
  have rz := rowEnd
  have sz := setEnd
  simp -implicitDefEqProofs only [c4, hS.len, en, enp, u1, u2, h1, h2, ea, e0', e0p, hg', hn, rz, sz, push_cast, Nat.reduceAdd, Nat.reduceMul, Nat.reduceSub, Nat.reduceLT, Nat.reduceLeDiff, Nat.reduceEqDiff, Nat.reducePow, Int.reduceToNat, Int.reduceLT, Int.reduceLE, Int.reduceNeg, Int.reduceEq, Int.reducePow, reduceIte, reduceCtorEq, Int.reduceMul, Int.reduceAdd, Int.reduceSub, Int.reduceMod, Int.reduceDiv, Int.reduceTDiv, Int.reduceTMod]
  generalize hI : iter _ _ _ _ = I
  have g0 : (0 : Nat) < ([(⟨0, [.i k, .i 1, .i 1, .i 1, .i 0, .i 0]⟩ : Row)] ++ g1).length := by simp
  have I0 : InvR ([(⟨0, [.i k, .i 1, .i 1, .i 1, .i 0, .i 0]⟩ : Row)] ++ g1 ++ [(⟨0, xC k 0 0 0 (fun _ => 0) false⟩ : Row)]) (AM.new 3 na np 2) (fun τ => 1 + rowN τ) k 0 (g1.length + 1) ⟨k, 1, 1, 1, 0, 0⟩ 0 (fun _ => 0) false 0 :=
    { mem := H1.app _
      sz := ⟨rfl, hna, hnp, rfl, rfl, rfl, rfl, rfl⟩
      ri := ⟨rfl, rfl, rfl, fun _ _ => rfl, rfl, fun _ => small_0, hk.1, by simp⟩
      ops := Int.le_refl _
      cl := Nat.le_refl _
      hd := Nat.le_refl _
      tb := by omega
      lb := fun _ => by omega
      rg := by rw [rowOf_app_lt g0]; rfl
      nr := fun hh => by have := new_own H0 [(⟨0, [.i k, .i 1, .i 1, .i 1, .i 0, .i 0]⟩ : Row)] 0 hh; simp at this
      x := by
        have e1 : g1.length + 1 = ([(⟨0, [.i k, .i 1, .i 1, .i 1, .i 0, .i 0]⟩ : Row)] ++ g1).length := by simp
        rw [e1]; exact rowOf_app_eq
      nx := fun hh => by have := H1.own hh; simp at this
      ne := by omega }
  obtain ⟨T, h, hI2, hT, hne⟩ := key _ _ hI ⟨_, _, _, _, _, _, _, _, _, _, rfl, I0, rfl, rfl, rfl, rfl, rfl, rfl⟩
  subst hI2
  rw [tl220 hT]
  simp -implicitDefEqProofs only [ea, push_cast, Nat.reduceAdd, Nat.reduceMul, Nat.reduceSub, Nat.reduceLT, Nat.reduceLeDiff, Nat.reduceEqDiff, Nat.reducePow, Int.reduceToNat, Int.reduceLT, Int.reduceLE, Int.reduceNeg, Int.reduceEq, Int.reducePow, reduceIte, reduceCtorEq, Int.reduceMul, Int.reduceAdd, Int.reduceSub, Int.reduceMod, Int.reduceDiv, Int.reduceTDiv, Int.reduceTMod]
  exact ⟨_, rfl⟩
end Go.Proofs.Ytcmlnjkbdlakfaa
