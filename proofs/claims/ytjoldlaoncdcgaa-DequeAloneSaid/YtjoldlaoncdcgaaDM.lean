/- Operations that are done one behind the other do what they do to a list (DequeAlone), as the evaluator answers: the whole. -/
import Derived.Test.YtjoldlaoncdcgaaDL
set_option linter.unusedSimpArgs false
set_option linter.unusedVariables false
set_option maxRecDepth 100000
set_option maxHeartbeats 16000000
namespace Go.Proofs.Ytjoldlaoncdcgaa
open Go
theorem e3 (k : Nat) (sl : Int) (hsl : 0 ≤ sl ∧ sl ≤ 255) (l : List Int) (S : LV) (hS : SlI l S) : ∃ h', evF cm (k + 600) 3 [.v (.int .u8 sl), S] [] 0 = some (.b true, h') := by
  rw [evH_fun (m := c3) rfl _ _ _ _ rfl]
  have ea : ∀ k, evP (evF cm (k + 200)) 8 [] = some (.b true) := e8
  obtain ⟨c, hc, hc'⟩ : ∃ c : Nat, sl.tmod 9 + 1 = (c : Int) ∧ 0 < c ∧ c ≤ 9 := ⟨(sl.tmod 9 + 1).toNat, by rw [tmod_pos hsl.1]; omega, by rw [tmod_pos hsl.1]; omega⟩
  have u1 : IntKind.u8.wrap (sl.tmod 9) = sl.tmod 9 := by rw [tmod_pos hsl.1]; show (sl % 9) % 256 = sl % 9; omega
  have u2 : IntKind.i64.wrap (sl.tmod 9) = sl.tmod 9 := by rw [w64 _ (by rw [tmod_pos hsl.1]; omega) (by rw [tmod_pos hsl.1]; omega)]
  have u3 : IntKind.i64.wrap (sl.tmod 9 + 1) = (c : Int) := by rw [hc]; exact w64 _ (by omega) (by omega)
  obtain ⟨na, hna⟩ : ∃ na : Nat, na = c + 4 := ⟨_, rfl⟩
  have u4 : IntKind.i64.wrap ((c : Int) + 2 + 2) = (na : Int) := by rw [w64 _ (by omega) (by omega)]; omega
  have en := fun k => need_ok k c (by omega)
  obtain ⟨h0, e0, H0⟩ := new_iso (k + 598) 3 na 0 0 (by omega) (by omega) (by omega) (by omega) (by omega) (by omega)
  have z3 : ((3 : Nat) : Int) = 3 := rfl
  have z0 : ((0 : Nat) : Int) = 0 := rfl
  rw [z3, z0] at e0
  have e0' : evF cm (k + 599) 6 [.i 3, .i na, .i 0, .i 0] [] 0 = some (.tup [.p 3 0 0, .i 0], h0) := e0
  have e0p : evP (evF cm (k + 599)) 6 [.i 3, .i na, .i 0, .i 0] = none := by
    unfold evP; rw [e0']; rfl
  have H1 := mem_shift H0 []
  generalize hg : ([] : List Row) ++ shR ([] : List Row).length h0 = g1 at H1
  have hg' : shR 0 h0 = g1 := hg
  by_cases hn : (60 : Int) < (l.length : Int)
  · simp -implicitDefEqProofs only [c3, hS.len, en, u1, u2, u3, u4, ea, e0', e0p, hg', hn, push_cast, Nat.reduceAdd, Nat.reduceMul, Nat.reduceSub, Nat.reduceLT, Nat.reduceLeDiff, Nat.reduceEqDiff, Nat.reducePow, Int.reduceToNat, Int.reduceLT, Int.reduceLE, Int.reduceNeg, Int.reduceEq, Int.reducePow, reduceIte, reduceCtorEq, Int.reduceMul, Int.reduceAdd, Int.reduceSub, Int.reduceMod, Int.reduceDiv, Int.reduceTDiv, Int.reduceTMod]
    exact ⟨_, rfl⟩
  have key : ∀ s I, iter (evCode (evF cm (k + 599)) (k + 599) 0 c3b0) (cleanN fgA) (k + 599) s = I → SA S c 0 s → ∃ T h, I = some (.exit 0, (T, h)) ∧ T.length = 158 ∧ h.isEmpty = false := by
    intro s I hI hs
    have := @iter_until (evCode (evF cm (k + 599)) (k + 599) 0 c3b0) (cleanN fgA) (SA S c) (fun s' => ∃ T h, s' = (T, h) ∧ T.length = 158 ∧ h.isEmpty = false) (fun _ => False) l.length 0
      (fun i s hi hs => .inl (alone_round (k + 599) (by omega) l S hS (by omega) c hc' i s hi hs)) (fun s hs => alone_last (k + 599) l S hS c s hs) l.length 0 s (k + 599) (by omega) (by omega) hs
    rcases this with ⟨s', h1, T, h, rfl, h2⟩ | ⟨_, _, hf⟩
    · exact ⟨T, h, hI.symm.trans h1, h2⟩
    · exact hf.elim
  have rz : ∀ cs, rowOf (g1 ++ [⟨0, cs⟩]) g1.length 0 = some cs := fun cs => rowOf_app_eq
  simp -implicitDefEqProofs only [c3, hS.len, en, u1, u2, u3, u4, ea, e0', e0p, hg', hn, rz, app1_0, push_cast, Nat.reduceAdd, Nat.reduceMul, Nat.reduceSub, Nat.reduceLT, Nat.reduceLeDiff, Nat.reduceEqDiff, Nat.reducePow, Int.reduceToNat, Int.reduceLT, Int.reduceLE, Int.reduceNeg, Int.reduceEq, Int.reducePow, reduceIte, reduceCtorEq, Int.reduceMul, Int.reduceAdd, Int.reduceSub, Int.reduceMod, Int.reduceDiv, Int.reduceTDiv, Int.reduceTMod]
  generalize hI : iter _ _ _ _ = I
  have I0 : InvA (g1 ++ [⟨0, [.i 1, .i c]⟩]) (AM.new 3 na 0 0) (fun τ => 0 + rowN τ) c g1.length 0 [] .nils 0 :=
    ⟨H1.app _, rfl, hna, Int.le_refl _, DInv.new 3 na 0 0 1 c hc'.1, .nil rfl, rowOf_app_eq, fun hh => Nat.lt_irrefl _ (H1.own hh), Nat.le_refl _⟩
  obtain ⟨T, h, hI2, hT, hne⟩ := key _ _ hI ⟨_, _, _, _, _, _, _, _, rfl, I0, rfl, rfl, rfl, rfl, rfl, rfl, rfl⟩
  subst hI2
  rw [tl158 hT]
  simp -implicitDefEqProofs only [ea, push_cast, Nat.reduceAdd, Nat.reduceMul, Nat.reduceSub, Nat.reduceLT, Nat.reduceLeDiff, Nat.reduceEqDiff, Nat.reducePow, Int.reduceToNat, Int.reduceLT, Int.reduceLE, Int.reduceNeg, Int.reduceEq, Int.reducePow, reduceIte, reduceCtorEq, Int.reduceMul, Int.reduceAdd, Int.reduceSub, Int.reduceMod, Int.reduceDiv, Int.reduceTDiv, Int.reduceTMod]
  exact ⟨_, rfl⟩
end Go.Proofs.Ytjoldlaoncdcgaa
