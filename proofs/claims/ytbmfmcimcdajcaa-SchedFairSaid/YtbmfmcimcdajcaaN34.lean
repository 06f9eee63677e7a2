/- Threads do steps as the picks say, and then by turns (SchedTurns), as the evaluator answers. -/
import Derived.Test.YtbmfmcimcdajcaaM34
set_option linter.unusedSimpArgs false
set_option linter.unusedVariables false
set_option maxRecDepth 100000
set_option maxHeartbeats 16000000
namespace Go.Proofs.Ytbmfmcimcdajcaa
open Go
theorem tl78 {T : List LV} (h : T.length = 78) : T = [getT T 0, getT T 1, getT T 2, getT T 3, getT T 4, getT T 5, getT T 6, getT T 7, getT T 8, getT T 9, getT T 10, getT T 11, getT T 12, getT T 13, getT T 14, getT T 15, getT T 16, getT T 17, getT T 18, getT T 19, getT T 20, getT T 21, getT T 22, getT T 23, getT T 24, getT T 25, getT T 26, getT T 27, getT T 28, getT T 29, getT T 30, getT T 31, getT T 32, getT T 33, getT T 34, getT T 35, getT T 36, getT T 37, getT T 38, getT T 39, getT T 40, getT T 41, getT T 42, getT T 43, getT T 44, getT T 45, getT T 46, getT T 47, getT T 48, getT T 49, getT T 50, getT T 51, getT T 52, getT T 53, getT T 54, getT T 55, getT T 56, getT T 57, getT T 58, getT T 59, getT T 60, getT T 61, getT T 62, getT T 63, getT T 64, getT T 65, getT T 66, getT T 67, getT T 68, getT T 69, getT T 70, getT T 71, getT T 72, getT T 73, getT T 74, getT T 75, getT T 76, getT T 77] := tlT h
theorem pk_of {cs : List LV} (h : Is (.sl (.i .i64)) cs) : ∃ l S, cs = [S] ∧ pkV l S ∧ ∀ n ∈ l, -9223372036854775808 ≤ n ∧ n ≤ 9223372036854775807 := by
  rcases h with rfl | ⟨L, rfl, hlen, hL⟩
  · exact ⟨[], _, rfl, .inl ⟨rfl, rfl⟩, fun n hn => by simp at hn⟩
  · clear hlen
    have : ∃ l : List Int, L.flatten = l.map LV.i ∧ L.length = l.length ∧ ∀ n ∈ l, -9223372036854775808 ≤ n ∧ n ≤ 9223372036854775807 := by
      induction L with
      | nil => exact ⟨[], rfl, rfl, fun n hn => by simp at hn⟩
      | cons x L ih =>
        obtain ⟨l, h1, h2, h3⟩ := ih (fun y hy => hL y (by simp [hy]))
        obtain ⟨n, hn, hn1, hn2⟩ := hL x (by simp)
        refine ⟨n :: l, by simp [hn, h1], by simp [h2], fun m hm => ?_⟩
        rcases List.mem_cons.1 hm with rfl | hm
        · exact ⟨hn1, hn2⟩
        · exact h3 m hm
    obtain ⟨l, h1, h2, h3⟩ := this
    exact ⟨l, _, by rw [h1, h2], .inr rfl, h3⟩
def fg3 : List Nat := [67, 66, 6, 76, 75, 74, 73, 72, 71, 70, 69, 68, 65, 64, 63, 62, 61, 60, 59]
def S3 (S O : LV) (is : Bool) (i : Nat) (s : St) : Prop := ∃ T, s = (T, []) ∧ T.length = 78 ∧ getT T 0 = S ∧ getT T 7 = O ∧ getT T 8 = .b is ∧ getT T 11 = .i i
theorem step3 (K : Nat) (hK : 620 ≤ K) (L V : List Int) (S O : LV) (hS : SlI L S) (hO : SlI V O) (hl : L.length ≤ 12) (hV : V.length ≤ 500) (hc : ∀ i : Nat, i < L.length → (V.count (i : Int) : Int) = if L.getD i 0 < 0 then 0 else L.getD i 0) (i : Nat) (s : St) (hi : i < L.length) (hs : S3 S O true i s) :
    ∃ s', evCode (evF cm K) K 0 c3b0 (cleanN fg3 s) = some (.nrm, s') ∧ S3 S O true (i + 1) s' := by
  obtain ⟨k, rfl⟩ : ∃ k, K = k + 600 := ⟨K - 600, by omega⟩
  obtain ⟨T, rfl, ht, t0, t7, t8, t11⟩ := hs
  rw [tl78 ht]
  have g1 : (i : Int) < L.length := by omega
  have hx := hS.ix i (by omega) g1
  have hr := rd_ints L i hi
  have hr' := rd_ints' L i hi
  rw [Int.toNat_natCast] at hx
  have w1 : IntKind.i64.wrap ((i : Int) + 1) = (i : Int) + 1 := w64 _ (by omega) (by omega)
  have k13 := fun k => e13 k V O hO hV (i : Int)
  have hcc := hc i hi
  have hh : ((V.count (i : Int) : Int) = if 0 < L.getD i 0 then L.getD i 0 else 0) := by
    rw [hcc]; split <;> split <;> omega
  have cl := hO.cl
  simp -implicitDefEqProofs only [c3b0, fg3, t0, t7, t8, t11, hS.len, hx, hr, hr', k13, e14, hh, cl, g1, w1, push_cast, Nat.reduceAdd, Nat.reduceMul, Nat.reduceSub, Nat.reduceLT, Nat.reduceLeDiff, Nat.reduceEqDiff, Nat.reducePow, Int.reduceToNat, Int.reduceLT, Int.reduceLE, Int.reduceNeg, Int.reduceEq, Int.reducePow, reduceIte, reduceCtorEq, Int.reduceMul, Int.reduceAdd, Int.reduceSub, Int.reduceMod, Int.reduceDiv, Int.reduceTDiv, Int.reduceTMod, iter_s]
  exact ⟨_, rfl, _, rfl, rfl, rfl, rfl, rfl, rfl⟩
theorem last3 (K : Nat) (L : List Int) (S O : LV) (hS : SlI L S) (is : Bool) (i : Nat) (s : St) (h : is = false ∨ i = L.length) (hs : S3 S O is i s) :
    ∃ s', evCode (evF cm K) K 0 c3b0 (cleanN fg3 s) = some (.exit 0, s') ∧ ∃ T, s' = (T, []) ∧ T.length = 78 := by
  obtain ⟨T, rfl, ht, t0, t7, t8, t11⟩ := hs
  rw [tl78 ht]
  by_cases g1 : (i : Int) < L.length
  · rcases h with rfl | h
    · simp -implicitDefEqProofs only [c3b0, fg3, t0, t7, t8, t11, hS.len, g1, push_cast, Nat.reduceAdd, Nat.reduceMul, Nat.reduceSub, Nat.reduceLT, Nat.reduceLeDiff, Nat.reduceEqDiff, Nat.reducePow, Int.reduceToNat, Int.reduceLT, Int.reduceLE, Int.reduceNeg, Int.reduceEq, Int.reducePow, reduceIte, reduceCtorEq, Int.reduceMul, Int.reduceAdd, Int.reduceSub, Int.reduceMod, Int.reduceDiv, Int.reduceTDiv, Int.reduceTMod, iter_s]
      exact ⟨_, rfl, _, rfl, rfl⟩
    · omega
  · simp -implicitDefEqProofs only [c3b0, fg3, t0, t7, t8, t11, hS.len, g1, push_cast, Nat.reduceAdd, Nat.reduceMul, Nat.reduceSub, Nat.reduceLT, Nat.reduceLeDiff, Nat.reduceEqDiff, Nat.reducePow, Int.reduceToNat, Int.reduceLT, Int.reduceLE, Int.reduceNeg, Int.reduceEq, Int.reducePow, reduceIte, reduceCtorEq, Int.reduceMul, Int.reduceAdd, Int.reduceSub, Int.reduceMod, Int.reduceDiv, Int.reduceTDiv, Int.reduceTMod, iter_s]
    exact ⟨_, rfl, _, rfl, rfl⟩
theorem out_len (L P : List Int) (most : Int) (h : mu L ≤ 480) : (res L P most).out.length ≤ 480 := by
  have : (res L P most).out.length + mu (res L P most).L = mu L :=
    fin_of (Q := fun m => m.out.length + mu m.L = mu L) most (fun m hm hd => by
      have := next_mu hd
      simp only [Mch.next, List.length_append, List.length_singleton] at this ⊢
      omega) _ _ (by simp [m0])
  omega
theorem e3 (k : Nat) (L P : List Int) (S PK : LV) (hS : pkV L S) (hPK : pkV P PK) (hP : ∀ p ∈ P, -9223372036854775808 ≤ p ∧ p ≤ 9223372036854775807) (most : Int) : evP (evF cm (k + 700)) 3 [S, PK, .i most] = some (.b true) := by
  rw [evP_fun (m := c3) rfl _ _ rfl]
  have hSl := pk_slI hS
  have hPl := pk_slI hPK
  by_cases hlt : lightP L
  · have k7 := fun k => e7 k L S hSl hlt
    by_cases hp : P.length ≤ 500
    · have g1 : ¬ (500 : Int) < (P.length : Int) := by omega
      have hL := light_lt hlt hP
      have k9 := fun k => e9 k L P hL S PK hSl hPK most
      have k10 := fun k => e10 k L P hL S PK hS hPK most
      have ho := slv_slI (res L P most).out
      have hol := out_len L P most hL.mu
      have k11 := fun k => e11 k (res L P most).out _ _ ho ho (by omega)
      have k12 := fun k => e12 k L S hSl hL.len
      have cls := hSl.cl
      have clp := hPl.cl
      have clo := ho.cl
      by_cases hm : most < 1
      · have hres : res L P most = m0 L P := fin_most hm _ _
        have e1 : (res L P most).out = [] := by rw [hres]; rfl
        have e2 : decide (liv (res L P most).L = []) = decide (((liv L).length : Int) = 0) := by
          rw [hres, decide_eq_decide, ← List.length_eq_zero_iff]
          show (liv L).length = 0 ↔ _
          omega
        rw [e1] at k9 k10 k11 clo
        rw [e2] at k9 k10
        have e3 : slv [] = .nils := rfl
        rw [e3] at k9 k10 k11
        simp -implicitDefEqProofs only [c3, k7, hPl.len, g1, k9, k10, k11, k12, e8, cls, clp, clo, hm, push_cast, Nat.reduceAdd, Nat.reduceMul, Nat.reduceSub, Nat.reduceLT, Nat.reduceLeDiff, Nat.reduceEqDiff, Nat.reducePow, Int.reduceToNat, Int.reduceLT, Int.reduceLE, Int.reduceNeg, Int.reduceEq, Int.reducePow, reduceIte, reduceCtorEq, Int.reduceMul, Int.reduceAdd, Int.reduceSub, Int.reduceMod, Int.reduceDiv, Int.reduceTDiv, Int.reduceTMod]
      · have key : ∀ s I, iter (evCode (evF cm (k + 699)) (k + 699) 0 c3b0) (cleanN fg3) (k + 699) s = I → S3 S (slv (res L P most).out) (decide (liv (res L P most).L = [])) 0 s → ∃ T, I = some (.exit 0, (T, [])) ∧ T.length = 78 := by
          intro s I hI hs
          have hl := hL.len
          by_cases hz : liv (res L P most).L = []
          · rw [decide_eq_true hz] at hs
            obtain ⟨s', h1, T, rfl, h3⟩ := iter_count (fun i s hi hs => step3 (k + 699) (by omega) L (res L P most).out S _ hSl ho hL.len (by omega) (fun i hi => res_all hz hi) i s hi hs) (fun s hs => last3 (k + 699) L S _ hSl true L.length s (.inr rfl) hs) L.length 0 s (k + 699) (by omega) (by omega) hs
            exact ⟨T, hI.symm.trans h1, h3⟩
          · rw [decide_eq_false hz] at hs
            obtain ⟨s', h1, T, rfl, h3⟩ := iter_count (S := fun i s => S3 S (slv (res L P most).out) false i s) (N := 0) (fun i s hi hs => by omega) (fun s hs => last3 (k + 699) L S _ hSl false 0 s (.inl rfl) hs) 0 0 s (k + 699) rfl (by omega) hs
            exact ⟨T, hI.symm.trans h1, h3⟩
        simp -implicitDefEqProofs only [c3, k7, hPl.len, g1, k9, k10, k11, cls, clp, clo, hm, push_cast, Nat.reduceAdd, Nat.reduceMul, Nat.reduceSub, Nat.reduceLT, Nat.reduceLeDiff, Nat.reduceEqDiff, Nat.reducePow, Int.reduceToNat, Int.reduceLT, Int.reduceLE, Int.reduceNeg, Int.reduceEq, Int.reducePow, reduceIte, reduceCtorEq, Int.reduceMul, Int.reduceAdd, Int.reduceSub, Int.reduceMod, Int.reduceDiv, Int.reduceTDiv, Int.reduceTMod]
        generalize hI : iter _ _ _ _ = I
        obtain ⟨T, hI2, ht⟩ := key _ _ hI ⟨_, rfl, rfl, rfl, rfl, rfl, rfl⟩
        subst hI2
        rw [tl78 ht]
        simp -implicitDefEqProofs only [e8, push_cast, Nat.reduceAdd, Nat.reduceMul, Nat.reduceSub, Nat.reduceLT, Nat.reduceLeDiff, Nat.reduceEqDiff, Nat.reducePow, Int.reduceToNat, Int.reduceLT, Int.reduceLE, Int.reduceNeg, Int.reduceEq, Int.reducePow, reduceIte, reduceCtorEq, Int.reduceMul, Int.reduceAdd, Int.reduceSub, Int.reduceMod, Int.reduceDiv, Int.reduceTDiv, Int.reduceTMod]
    · have g1 : (500 : Int) < (P.length : Int) := by omega
      simp -implicitDefEqProofs only [c3, k7, hPl.len, g1, e8, hSl.cl, push_cast, Nat.reduceAdd, Nat.reduceMul, Nat.reduceSub, Nat.reduceLT, Nat.reduceLeDiff, Nat.reduceEqDiff, Nat.reducePow, Int.reduceToNat, Int.reduceLT, Int.reduceLE, Int.reduceNeg, Int.reduceEq, Int.reducePow, reduceIte, reduceCtorEq, Int.reduceMul, Int.reduceAdd, Int.reduceSub, Int.reduceMod, Int.reduceDiv, Int.reduceTDiv, Int.reduceTMod]
  · have k7 := fun k => e7f k L S hSl hlt
    simp -implicitDefEqProofs only [c3, k7, hPl.len, e8, hSl.cl, push_cast, Nat.reduceAdd, Nat.reduceMul, Nat.reduceSub, Nat.reduceLT, Nat.reduceLeDiff, Nat.reduceEqDiff, Nat.reducePow, Int.reduceToNat, Int.reduceLT, Int.reduceLE, Int.reduceNeg, Int.reduceEq, Int.reducePow, reduceIte, reduceCtorEq, Int.reduceMul, Int.reduceAdd, Int.reduceSub, Int.reduceMod, Int.reduceDiv, Int.reduceTDiv, Int.reduceTMod]
end Go.Proofs.Ytbmfmcimcdajcaa
