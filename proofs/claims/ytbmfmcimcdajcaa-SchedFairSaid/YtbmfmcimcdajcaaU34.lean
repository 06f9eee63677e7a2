/- The rounds of SchedFair. -/
import Derived.Test.YtbmfmcimcdajcaaQ34
set_option linter.unusedSimpArgs false
set_option linter.unusedVariables false
set_option maxRecDepth 100000
set_option maxHeartbeats 16000000
namespace Go.Proofs.Ytbmfmcimcdajcaa
open Go
def fg4o : List Nat := [43, 42, 117, 116, 115, 114, 113, 112, 111, 110, 109, 108, 107, 106, 105, 104, 4, 103, 102, 101, 100, 99, 98, 97, 96, 95, 94, 93, 92, 91, 90, 89, 88, 87, 86, 85, 84, 83, 82, 81, 80, 63, 62, 79, 78, 77, 76, 75, 74, 73, 72, 71, 70, 69, 68, 67, 66, 65, 64, 61, 60, 59, 58, 57, 56, 55, 54, 53, 52, 51, 50, 49, 48, 47, 46, 45, 44, 41, 40, 39, 38]
def S4o (L P : List Int) (PK OV : LV) (i : Nat) (s : St) : Prop := ∃ T, s = (T, [⟨0, (sts i (m0 L P)).L.map LV.i⟩]) ∧ T.length = 119 ∧ getT T 1 = PK ∧ getT T 5 = OV ∧ getT T 7 = .sl 0 0 0 L.length 1 L.length ∧ getT T 8 = .i i
theorem sts_len (L P : List Int) : ∀ i, (sts i (m0 L P)).L.length = L.length
  | 0 => rfl
  | i + 1 => by
    show (dec _ _).length = _
    rw [dec_length, sts_len L P i]
theorem sts_le (L P : List Int) (h : ∀ j : Nat, L.getD j 0 ≤ 40) : ∀ i, (∀ i', i' < i → liv (sts i' (m0 L P)).L ≠ []) → ∀ j : Nat, (sts i (m0 L P)).L.getD j 0 ≤ 40
  | 0, _, j => h j
  | i + 1, hl, j => by
    have h1 := sts_le L P h i (fun i' hi' => hl i' (by omega))
    have hm := tn_mem _ (hl i (by omega))
    obtain ⟨a, b⟩ := mem_liv.1 hm
    show (dec _ _).getD j 0 ≤ 40
    rw [dec_get a]
    have h2 := h1 (sts i (m0 L P)).tn
    have h3 := h1 j
    split <;> omega
theorem step4o (K : Nat) (hK : 700 ≤ K) (L P : List Int) (hL : Lt L P) (PK : LV) (hPK : pkV P PK) (O : List Int) (hO1 : O.length = mu L) (hO : O = (List.range (mu L)).map fun j => ((sts j (m0 L P)).tn : Int)) (hlive : ∀ i, i < mu L → liv (sts i (m0 L P)).L ≠ [])
    (i : Nat) (s : St) (hi : i < mu L) (hs : S4o L P PK (.im (O.map LV.i) O.length false) i s) :
    ∃ s', evCode (evF cm K) K 0 c4b1 (cleanN fg4o s) = some (.nrm, s') ∧ S4o L P PK (.im (O.map LV.i) O.length false) (i + 1) s' := by
  obtain ⟨T, rfl, hT, t1, t5, t7, t8⟩ := hs
  have hmu := hL.mu
  have hll := hL.len
  have hQl := sts_len L P i
  have hQ40 := sts_le L P hL.le i (fun i' hi' => hlive i' (by omega))
  have hl := hlive i hi
  have hP' := sts_P i (m0 L P)
  have hfair : P.length ≤ i → i + (liv (sts i (m0 L P)).L).length ≤ mu L → ∀ t : Nat, 0 < (sts i (m0 L P)).L.getD t 0 → ((O.drop i).take (liv (sts i (m0 L P)).L).length).count (t : Int) ≠ 0 := by
    intro h1 h2 t ht
    have htl : t < (sts i (m0 L P)).L.length := by
      by_cases h : t < (sts i (m0 L P)).L.length
      · exact h
      · rw [List.getD_eq_getElem?_getD, List.getElem?_eq_none (by omega)] at ht; simp at ht
    obtain ⟨d, hd1, hd2⟩ := fair_in (m := sts i (m0 L P)) (by rw [hP']; exact List.drop_of_length_le h1) (mem_liv.2 ⟨htl, ht⟩)
    rw [sts_add] at hd2
    have : (t : Int) ∈ (O.drop i).take (liv (sts i (m0 L P)).L).length := by
      refine List.mem_iff_getElem?.2 ⟨d, ?_⟩
      rw [List.getElem?_take_of_lt hd1, List.getElem?_drop, hO, List.getElem?_map, List.getElem?_range (by omega)]
      simp [hd2]
    have := List.count_pos_iff.2 this
    omega
  have hOi : O.getD i 0 = ((sts i (m0 L P)).tn : Int) := by
    rw [List.getD_eq_getElem?_getD, hO, List.getElem?_map, List.getElem?_range hi]; rfl
  have hnext : (sts (i + 1) (m0 L P)).L = dec (sts i (m0 L P)).L (sts i (m0 L P)).tn := rfl
  obtain ⟨a1, a2⟩ := mem_liv.1 (tn_mem _ hl)
  unfold S4o
  rw [hnext]
  have hPs := pk_slI hPK
  generalize (sts i (m0 L P)).tn = tn at *
  generalize (sts i (m0 L P)).L = Q at *
  have a3 := hQ40 tn
  have hl0 := List.length_pos_iff.2 hl
  have hln : (liv Q).length ≤ 12 := by have := cnt_le Q Q.length; rw [liv_length]; omega
  have hSl := slI_im Q false
  rw [hQl] at hSl
  have k12 := fun k => e12 k Q _ hSl (by omega)
  have cl := closedL_ints Q
  have hOs := slI_im O false
  have g1 : (i : Int) < (O.length : Int) := by omega
  have hx := hOs.ix i (by omega) g1
  have hr := rd_ints O i (by omega)
  have hr' := rd_ints' O i (by omega)
  rw [Int.toNat_natCast] at hx
  rw [hOi] at hr hr'
  have tk : List.take L.length (Q.map LV.i) = Q.map LV.i := List.take_of_length_le (by simp; omega)
  have tz : L.length ≤ (Q.map LV.i).length := by simp; omega
  have gt : (tn : Int) < (L.length : Int) := by omega
  have gt0 : (0 : Int) ≤ (tn : Int) := by omega
  have gt1 : ¬ (tn : Int) < 0 := by omega
  have gt2 : ¬ (L.length : Int) ≤ (tn : Int) := by omega
  have gt3 : ¬ Q.getD tn 0 < 1 := by omega
  have gtz : tn + 1 ≤ (Q.map LV.i).length := by simp; omega
  have hget : (Q.map LV.i)[tn]? = some (.i (Q.getD tn 0)) := by simp [a1]
  have w1 : IntKind.i64.wrap (Q.getD tn 0 - 1) = Q.getD tn 0 - 1 := w64 _ (by omega) (by omega)
  have w2 : IntKind.i64.wrap ((i : Int) + ((liv Q).length : Int)) = (i : Int) + ((liv Q).length : Int) := w64 _ (by omega) (by omega)
  have w3 : IntKind.i64.wrap ((i : Int) + 1) = (i : Int) + 1 := w64 _ (by omega) (by omega)
  have hput : List.take tn (Q.map LV.i) ++ [LV.i (Q.getD tn 0 - 1)] ++ List.drop (tn + 1) (Q.map LV.i) = (dec Q tn).map LV.i := by
    unfold dec
    rw [List.set_eq_take_append_cons_drop, if_pos a1]
    simp [List.map_take, List.map_drop]
  rw [tl119 hT]
  by_cases g2 : (P.length : Int) ≤ (i : Int)
  · by_cases g3 : (i : Int) + ((liv Q).length : Int) ≤ (O.length : Int)
    · have key : ∀ s I, iter (evCode (evF cm K) K 0 c4b0) (cleanN fg4) K s = I → S4 Q O PK (.im (O.map LV.i) O.length false) L.length i (liv Q).length 0 s → ∃ s', I = some (.exit 2, s') ∧ S4 Q O PK (.im (O.map LV.i) O.length false) L.length i (liv Q).length L.length s' := by
        intro s I hI hs
        obtain ⟨s', h1, h2⟩ := iter_count (fun t s ht hs => step4 K (by omega) Q O PK L.length i (liv Q).length t hL.len hQl (by omega) hl0 (by omega) (hfair (by omega) (by omega) t) s ht hs) (fun s hs => last4 K Q O PK _ L.length i (liv Q).length s hs) L.length 0 s K (by omega) (by omega) hs
        exact ⟨s', hI.symm.trans h1, h2⟩
      obtain ⟨k, rfl⟩ : ∃ k, K = k + 20 := ⟨K - 20, by omega⟩
      simp -implicitDefEqProofs only [c4b1, fg4o, t1, t5, t7, t8, hPs.len, k12, cl, tk, tz, g1, g2, g3, w2, call_B, orF_some, flat, flatL, push_cast, Nat.reduceAdd, Nat.reduceMul, Nat.reduceSub, Nat.reduceLT, Nat.reduceLeDiff, Nat.reduceEqDiff, Nat.reducePow, Int.reduceToNat, Int.reduceLT, Int.reduceLE, Int.reduceNeg, Int.reduceEq, Int.reducePow, reduceIte, reduceCtorEq, Int.reduceMul, Int.reduceAdd, Int.reduceSub, Int.reduceMod, Int.reduceDiv, Int.reduceTDiv, Int.reduceTMod]
      generalize hI : iter _ _ _ _ = I
      obtain ⟨s', hI2, T', rfl, hT', t1', t5', t7', t8', t9', t10'⟩ := key _ _ hI ⟨_, rfl, rfl, rfl, rfl, rfl, rfl, rfl, rfl⟩
      subst hI2
      clear hI
      rw [tl119 hT']
      simp -implicitDefEqProofs only [t1', t5', t7', t8', t9', hx, hr, hr', tk, tz, gt, gt0, gt1, gt2, gt3, gtz, hget, w1, w3, hput, push_cast, Nat.reduceAdd, Nat.reduceMul, Nat.reduceSub, Nat.reduceLT, Nat.reduceLeDiff, Nat.reduceEqDiff, Nat.reducePow, Int.reduceToNat, Int.reduceLT, Int.reduceLE, Int.reduceNeg, Int.reduceEq, Int.reducePow, reduceIte, reduceCtorEq, Int.reduceMul, Int.reduceAdd, Int.reduceSub, Int.reduceMod, Int.reduceDiv, Int.reduceTDiv, Int.reduceTMod]
      exact ⟨_, rfl, _, rfl, rfl, rfl, rfl, rfl, rfl⟩
    · obtain ⟨k, rfl⟩ : ∃ k, K = k + 20 := ⟨K - 20, by omega⟩
      simp -implicitDefEqProofs only [c4b1, fg4o, t1, t5, t7, t8, hPs.len, k12, cl, g1, g2, g3, w2, hx, hr, hr', tk, tz, gt, gt0, gt1, gt2, gt3, gtz, hget, w1, w3, hput, call_B, orF_some, flat, flatL, push_cast, Nat.reduceAdd, Nat.reduceMul, Nat.reduceSub, Nat.reduceLT, Nat.reduceLeDiff, Nat.reduceEqDiff, Nat.reducePow, Int.reduceToNat, Int.reduceLT, Int.reduceLE, Int.reduceNeg, Int.reduceEq, Int.reducePow, reduceIte, reduceCtorEq, Int.reduceMul, Int.reduceAdd, Int.reduceSub, Int.reduceMod, Int.reduceDiv, Int.reduceTDiv, Int.reduceTMod]
      exact ⟨_, rfl, _, rfl, rfl, rfl, rfl, rfl, rfl⟩
  · obtain ⟨k, rfl⟩ : ∃ k, K = k + 20 := ⟨K - 20, by omega⟩
    simp -implicitDefEqProofs only [c4b1, fg4o, t1, t5, t7, t8, hPs.len, k12, cl, g1, g2, hx, hr, hr', tk, tz, gt, gt0, gt1, gt2, gt3, gtz, hget, w1, w3, hput, call_B, orF_some, flat, flatL, push_cast, Nat.reduceAdd, Nat.reduceMul, Nat.reduceSub, Nat.reduceLT, Nat.reduceLeDiff, Nat.reduceEqDiff, Nat.reducePow, Int.reduceToNat, Int.reduceLT, Int.reduceLE, Int.reduceNeg, Int.reduceEq, Int.reducePow, reduceIte, reduceCtorEq, Int.reduceMul, Int.reduceAdd, Int.reduceSub, Int.reduceMod, Int.reduceDiv, Int.reduceTDiv, Int.reduceTMod]
    exact ⟨_, rfl, _, rfl, rfl, rfl, rfl, rfl, rfl⟩
theorem last4o (K : Nat) (L P : List Int) (PK : LV) (O : List Int) (s : St) (hs : S4o L P PK (.im (O.map LV.i) O.length false) O.length s) :
    ∃ s', evCode (evF cm K) K 0 c4b1 (cleanN fg4o s) = some (.exit 0, s') ∧ ∃ T, s' = (T, [⟨0, (sts O.length (m0 L P)).L.map LV.i⟩]) ∧ T.length = 119 := by
  obtain ⟨T, rfl, hT, t1, t5, t7, t8⟩ := hs
  rw [tl119 hT]
  have g1 : ¬ (O.length : Int) < (O.length : Int) := by omega
  simp -implicitDefEqProofs only [c4b1, fg4o, t1, t5, t7, t8, g1, push_cast, Nat.reduceAdd, Nat.reduceMul, Nat.reduceSub, Nat.reduceLT, Nat.reduceLeDiff, Nat.reduceEqDiff, Nat.reducePow, Int.reduceToNat, Int.reduceLT, Int.reduceLE, Int.reduceNeg, Int.reduceEq, Int.reducePow, reduceIte, reduceCtorEq, Int.reduceMul, Int.reduceAdd, Int.reduceSub, Int.reduceMod, Int.reduceDiv, Int.reduceTDiv, Int.reduceTMod, iter_s]
  exact ⟨_, rfl, _, rfl, rfl⟩
end Go.Proofs.Ytbmfmcimcdajcaa
