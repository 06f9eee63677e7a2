/- Turns, as the evaluator answers. -/
import Derived.Test.YtbmfmcimcdajcaaJ34
set_option linter.unusedSimpArgs false
set_option linter.unusedVariables false
set_option maxRecDepth 100000
set_option maxHeartbeats 16000000
namespace Go.Proofs.Ytbmfmcimcdajcaa
open Go
theorem tl36 {T : List LV} (h : T.length = 36) : T = [getT T 0, getT T 1, getT T 2, getT T 3, getT T 4, getT T 5, getT T 6, getT T 7, getT T 8, getT T 9, getT T 10, getT T 11, getT T 12, getT T 13, getT T 14, getT T 15, getT T 16, getT T 17, getT T 18, getT T 19, getT T 20, getT T 21, getT T 22, getT T 23, getT T 24, getT T 25, getT T 26, getT T 27, getT T 28, getT T 29, getT T 30, getT T 31, getT T 32, getT T 33, getT T 34, getT T 35] := tlT h
theorem tl69 {T : List LV} (h : T.length = 69) : T = [getT T 0, getT T 1, getT T 2, getT T 3, getT T 4, getT T 5, getT T 6, getT T 7, getT T 8, getT T 9, getT T 10, getT T 11, getT T 12, getT T 13, getT T 14, getT T 15, getT T 16, getT T 17, getT T 18, getT T 19, getT T 20, getT T 21, getT T 22, getT T 23, getT T 24, getT T 25, getT T 26, getT T 27, getT T 28, getT T 29, getT T 30, getT T 31, getT T 32, getT T 33, getT T 34, getT T 35, getT T 36, getT T 37, getT T 38, getT T 39, getT T 40, getT T 41, getT T 42, getT T 43, getT T 44, getT T 45, getT T 46, getT T 47, getT T 48, getT T 49, getT T 50, getT T 51, getT T 52, getT T 53, getT T 54, getT T 55, getT T 56, getT T 57, getT T 58, getT T 59, getT T 60, getT T 61, getT T 62, getT T 63, getT T 64, getT T 65, getT T 66, getT T 67, getT T 68] := tlT h
def fg9 : List Nat := [29, 28, 27, 26, 25, 24, 23, 22, 21, 20, 19, 18, 17, 16, 15, 14]
def S9 (L : List Int) (S PK : LV) (most : Int) (i : Nat) (s : St) : Prop := ∃ T g a X, s = (T, g) ∧ T.length = 36 ∧ getT T 1 = PK ∧ getT T 2 = .i most ∧ getT T 8 = growS a i ∧ getT T 11 = S ∧ getT T 12 = .i L.length ∧ getT T 13 = .i i ∧ Th9 g X L a i
theorem step9 (K : Nat) (L : List Int) (S PK : LV) (hS : SlI L S) (hl : L.length ≤ 12) (most : Int) (i : Nat) (s : St) (hi : i < L.length) (hs : S9 L S PK most i s) :
    ∃ s', evCode (evF cm K) K 0 c9b0 (cleanN fg9 s) = some (.nrm, s') ∧ S9 L S PK most (i + 1) s' := by
  obtain ⟨T, g, a, X, rfl, ht, t1, t2, t8, t11, t12, t13, hT⟩ := hs
  rw [tl36 ht]
  have g1 : (i : Int) < L.length := by omega
  have hx := hS.ix i (by omega) g1
  have hr := rd_ints L i hi
  have hr' := rd_ints' L i hi
  rw [Int.toNat_natCast] at hx
  have w1 : IntKind.i64.wrap ((i : Int) + 1) = (i : Int) + 1 := w64 _ (by omega) (by omega)
  by_cases h : L.getD i 0 < 1
  · obtain ⟨a', g', h1, h2⟩ := th9_nil hT (by omega) h
    simp -implicitDefEqProofs only [c9b0, fg9, t1, t2, t8, t11, t12, t13, hx, hr, hr', h, h1, g1, w1, push_cast, Nat.reduceAdd, Nat.reduceMul, Nat.reduceSub, Nat.reduceLT, Nat.reduceLeDiff, Nat.reduceEqDiff, Nat.reducePow, Int.reduceToNat, Int.reduceLT, Int.reduceLE, Int.reduceNeg, Int.reduceEq, Int.reducePow, reduceIte, reduceCtorEq, Int.reduceMul, Int.reduceAdd, Int.reduceSub, Int.reduceMod, Int.reduceDiv, Int.reduceTDiv, Int.reduceTMod, iter_s]
    exact ⟨_, rfl, _, g', a', _, rfl, rfl, rfl, rfl, rfl, rfl, rfl, rfl, h2⟩
  · obtain ⟨a', g', h1, h2⟩ := th9_live hT (by omega) (show 0 < L.getD i 0 by omega)
    simp -implicitDefEqProofs only [c9b0, fg9, t1, t2, t8, t11, t12, t13, hx, hr, hr', h, h1, g1, w1, push_cast, Nat.reduceAdd, Nat.reduceMul, Nat.reduceSub, Nat.reduceLT, Nat.reduceLeDiff, Nat.reduceEqDiff, Nat.reducePow, Int.reduceToNat, Int.reduceLT, Int.reduceLE, Int.reduceNeg, Int.reduceEq, Int.reducePow, reduceIte, reduceCtorEq, Int.reduceMul, Int.reduceAdd, Int.reduceSub, Int.reduceMod, Int.reduceDiv, Int.reduceTDiv, Int.reduceTMod, iter_s]
    exact ⟨_, rfl, _, g', a', _, rfl, rfl, rfl, rfl, rfl, rfl, rfl, rfl, h2⟩
theorem last9 (K : Nat) (L : List Int) (S PK : LV) (most : Int) (s : St) (hs : S9 L S PK most L.length s) :
    ∃ s', evCode (evF cm K) K 0 c9b0 (cleanN fg9 s) = some (.exit 0, s') ∧ S9 L S PK most L.length s' := by
  obtain ⟨T, g, a, X, rfl, ht, t1, t2, t8, t11, t12, t13, hT⟩ := hs
  rw [tl36 ht]
  have g1 : ¬ (L.length : Int) < L.length := by omega
  simp -implicitDefEqProofs only [c9b0, fg9, t1, t2, t8, t11, t12, t13, g1, push_cast, Nat.reduceAdd, Nat.reduceMul, Nat.reduceSub, Nat.reduceLT, Nat.reduceLeDiff, Nat.reduceEqDiff, Nat.reducePow, Int.reduceToNat, Int.reduceLT, Int.reduceLE, Int.reduceNeg, Int.reduceEq, Int.reducePow, reduceIte, reduceCtorEq, Int.reduceMul, Int.reduceAdd, Int.reduceSub, Int.reduceMod, Int.reduceDiv, Int.reduceTDiv, Int.reduceTMod, iter_s]
  exact ⟨_, rfl, _, g, a, X, rfl, rfl, rfl, rfl, rfl, rfl, rfl, rfl, hT⟩
theorem closedL_nils : ∀ X : List LV, (∀ i, i < X.length → X[i]? = some (.v .nilIface)) → closedL X = true
  | [], _ => rfl
  | x :: X, h => by
    have h0 := h 0 (by simp)
    simp at h0
    subst h0
    have := closedL_nils X (fun i hi => by have := h (i + 1) (by simp; omega); simpa using this)
    simp [closedL, closed, this]
theorem closedL_ptr : ∀ (X : List LV) (i r : Nat), X[i]? = some (LV.ifc 34 (.p r 0 0)) → closedL X = false
  | [], i, r, h => by simp at h
  | x :: X, 0, r, h => by
    simp at h; subst h
    simp [closedL, closed]
  | x :: X, i + 1, r, h => by
    have := closedL_ptr X i r (by simpa using h)
    simp [closedL, this]
/-- Bounds that light threads keep. -/
structure Lt (L P : List Int) : Prop where
  len : L.length ≤ 12
  le : ∀ i : Nat, L.getD i 0 ≤ 40
  mu : mu L ≤ 480
  P : ∀ p ∈ P, -9223372036854775808 ≤ p ∧ p ≤ 9223372036854775807
/-- A call of Run, of threads just made. -/
theorem call17 (k lim : Nat) (L P : List Int) (hL : Lt L P) (PK : LV) (hPK : pkV P PK) (most : Int) (g : List Row) (a : Nat) (X : List LV) (hT : Th9 g X L a L.length) :
    ∃ h' ov, callE (evF cm (k + 600)) false 0 g (.f 17 []) [growS a L.length, PK, .i most] = some (.tup [ov, .b (decide (liv (res L P most).L = []))], h') ∧ frz h' ov = slv (res L P most).out := by
  have hLb : ∀ i : Nat, L.getD i 0 ≤ 9223372036854775807 := fun i => by have := hL.le i; omega
  have pcl : closed PK = true := by
    rcases hPK with ⟨_, rfl⟩ | rfl
    · rfl
    · exact closedL_ints P
  have pfr : frz g PK = PK := by rcases hPK with ⟨_, rfl⟩ | rfl <;> rfl
  have hTh : Th g X L := ⟨hT.len, fun i hi => by
    rcases hT.each i hi with h | ⟨r, _, h1, h2, _⟩
    · exact .inl h
    · exact .inr ⟨r, h1, h2⟩, hT.inj⟩
  have hel : ∀ (i r : Nat), X[i]? = some (LV.ifc 34 (.p r 0 0)) → r ≠ a ∧ 0 < L.getD i 0 := by
    intro i r e
    have hi : i < L.length := by
      have := (List.getElem?_eq_some_iff.1 e).1
      rw [hT.len] at this; exact this
    rcases hT.each i hi with ⟨h, _⟩ | ⟨r', h1, h2, _, h3⟩
    · rw [h] at e; simp at e
    · rw [h2] at e; simp at e; subst e; exact ⟨h1, h3⟩
  cases hn : L.length with
  | zero =>
    have hL0 : L = [] := List.length_eq_zero_iff.1 hn
    obtain ⟨h', ov, h1, h2⟩ := e17 k [] 0 0 0 [] L P .nils PK most hL.len ⟨by rw [hL0]; rfl, fun i hi => by omega, fun i j r h => by simp at h⟩ (fun i r h => by simp at h) (.inl ⟨hL0, rfl⟩) (fun i r h => by simp at h) hL.P hPK hL.mu hLb
    have hc : closedL ([.nils, PK, .i most] ++ []) = true := by simp [closedL, closed, pcl]
    have hv : liv (res L P most).L = [] := by subst hL0; rfl
    have ho : (res L P most).out = [] := by subst hL0; rfl
    rw [ho] at h2
    refine ⟨g, .nils, ?_, by rw [ho]; rfl⟩
    show callE _ false 0 g (.f 17 []) [.nils, PK, .i most] = _
    rw [call_P hc]
    have : evP (evF cm (k + 600)) 17 ([.nils, PK, .i most] ++ []) = some (.tup [.nils, .b (decide (liv (res L P most).L = []))]) := by
      simp only [evP, List.append_nil]
      rw [h1]
      simp only [frz, frzL, h2, slv, closed, closedL, Bool.and_true, if_true]
    rw [this, orE_some]
  | succ n =>
    have hrow : rowOf g a n = some X := by have := hT.row (by omega); rw [hn] at this; exact this
    have hXl : X.length = n + 1 := by rw [hT.len, hn]
    have hc : closedL ([growS a (n + 1), PK, .i most] ++ []) = false := rfl
    have htk : List.take (n + 1) X = X := List.take_of_length_le (by omega)
    have hfz : frzL g ([growS a (n + 1), PK, .i most] ++ []) = [.im X (n + 1) false, PK, .i most] := by
      simp only [growS, List.append_nil, frzL, frz, hrow, pfr, Nat.zero_add, Nat.mul_one, List.drop_zero, htk]
      rw [if_pos (by omega)]
    by_cases hp : ∃ i r : Nat, X[i]? = some (LV.ifc 34 (.p r 0 0))
    · obtain ⟨i, r, hp⟩ := hp
      have hf : closedL (frzL g ([growS a (n + 1), PK, .i most] ++ [])) = false := by
        rw [hfz]
        simp only [closedL, closed, closedL_ptr X i r hp, Bool.false_and]
      rw [call_S hc hf]
      exact e17 k g a n (n + 1) X L P _ PK most hL.len hTh (fun i r h => (hel i r h).2) (.inr ⟨by rw [hXl]; rfl, hrow⟩) (fun i r h => (hel i r h).1) hL.P hPK hL.mu hLb
    · have hX : ∀ i, i < X.length → X[i]? = some (.v .nilIface) := by
        intro i hi
        rcases hT.each i (by rw [← hT.len]; exact hi) with ⟨h, _⟩ | ⟨r, _, h, _⟩
        · exact h
        · exact absurd ⟨i, r, h⟩ hp
      have hv : liv L = [] := by
        refine List.eq_nil_iff_forall_not_mem.2 fun t ht => ?_
        obtain ⟨h1, h2⟩ := mem_liv.1 ht
        rcases hT.each t h1 with ⟨_, h⟩ | ⟨r, _, h, _⟩
        · omega
        · exact hp ⟨t, r, h⟩
      have hres : res L P most = m0 L P := by unfold res; rw [mu_nil.1 hv]; rfl
      have hf : closedL (frzL g ([growS a (n + 1), PK, .i most] ++ [])) = true := by
        rw [hfz]
        simp only [closedL, closed, closedL_nils X hX, pcl, Bool.and_true]
      obtain ⟨h', e⟩ := e17z k [] X P PK most (by have := hL.len; omega) hX hPK
      rw [hXl] at e
      rw [call_I hc hf, hfz, e, hres]
      have hd : decide (liv (m0 L P).L = []) = true := decide_eq_true hv
      rw [hd]
      exact ⟨_, _, rfl, rfl⟩
theorem e9 (k : Nat) (L P : List Int) (hL : Lt L P) (S PK : LV) (hS : SlI L S) (hPK : pkV P PK) (most : Int) :
    evP (evF cm (k + 620)) 9 [S, PK, .i most] = some (.tup [slv (res L P most).out, .b (decide (liv (res L P most).L = []))]) := by
  rw [evP_fun (m := c9) rfl _ _ rfl]
  have key : ∀ s I, iter (evCode (evF cm (k + 619)) (k + 619) 0 c9b0) (cleanN fg9) (k + 619) s = I → S9 L S PK most 0 s → ∃ s', I = some (.exit 0, s') ∧ S9 L S PK most L.length s' := by
    intro s I hI hs
    obtain ⟨s', h1, h2⟩ := iter_count (fun i s hi hs => step9 (k + 619) L S PK hS hL.len most i s hi hs) (fun s hs => last9 (k + 619) L S PK most s hs) L.length 0 s (k + 619) (by omega) (by have := hL.len; omega) hs
    exact ⟨s', hI.symm.trans h1, h2⟩
  simp -implicitDefEqProofs only [c9, hS.len, push_cast, Nat.reduceAdd, Nat.reduceMul, Nat.reduceSub, Nat.reduceLT, Nat.reduceLeDiff, Nat.reduceEqDiff, Nat.reducePow, Int.reduceToNat, Int.reduceLT, Int.reduceLE, Int.reduceNeg, Int.reduceEq, Int.reducePow, reduceIte, reduceCtorEq, Int.reduceMul, Int.reduceAdd, Int.reduceSub, Int.reduceMod, Int.reduceDiv, Int.reduceTDiv, Int.reduceTMod]
  generalize hI : iter _ _ _ _ = I
  obtain ⟨s', hI2, T, g, a, X, rfl, ht, t1, t2, t8, t11, t12, t13, hT⟩ := key _ _ hI ⟨_, [], 0, [], rfl, rfl, rfl, rfl, rfl, rfl, rfl, rfl, th9_0 _ _⟩
  subst hI2
  clear hI
  obtain ⟨h', ov, h1, h2⟩ := call17 (k + 19) 0 L P hL PK hPK most g a X hT
  rw [tl36 ht]
  have hcl := (slv_slI (res L P most).out).cl
  simp -implicitDefEqProofs only [t1, t2, t8, t11, t12, t13, h1, h2, hcl, push_cast, Nat.reduceAdd, Nat.reduceMul, Nat.reduceSub, Nat.reduceLT, Nat.reduceLeDiff, Nat.reduceEqDiff, Nat.reducePow, Int.reduceToNat, Int.reduceLT, Int.reduceLE, Int.reduceNeg, Int.reduceEq, Int.reducePow, reduceIte, reduceCtorEq, Int.reduceMul, Int.reduceAdd, Int.reduceSub, Int.reduceMod, Int.reduceDiv, Int.reduceTDiv, Int.reduceTMod]
end Go.Proofs.Ytbmfmcimcdajcaa
