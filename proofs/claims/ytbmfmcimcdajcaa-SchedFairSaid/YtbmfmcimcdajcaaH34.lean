/- The plan, the next one, a place taken out: in a heap. -/
import Derived.Test.YtbmfmcimcdajcaaG34
set_option linter.unusedSimpArgs false
set_option linter.unusedVariables false
set_option maxRecDepth 100000
set_option maxHeartbeats 16000000
namespace Go.Proofs.Ytbmfmcimcdajcaa
open Go
/-! ### rows -/
theorem rowOf_lt {h : List Row} {r v : Nat} {cs : List LV} (e : rowOf h r v = some cs) : r < h.length := by
  unfold rowOf at e
  by_cases hr : r < h.length
  · exact hr
  · rw [List.getElem?_eq_none (by omega)] at e; simp at e
theorem rowOf_set {h : List Row} {r v : Nat} {cs : List LV} (hr : r < h.length) : rowOf (h.set r ⟨v, cs⟩) r v = some cs := by
  unfold rowOf
  rw [List.getElem?_set_self hr]
  simp
theorem rowOf_set_ne {h : List Row} {r s v : Nat} {x : Row} (hr : r ≠ s) : rowOf (h.set r x) s v = rowOf h s v := by
  unfold rowOf
  rw [List.getElem?_set_ne hr]
theorem rowOf_left {g t : List Row} {r v : Nat} (hr : r < g.length) : rowOf (g ++ t) r v = rowOf g r v := by
  unfold rowOf
  rw [List.getElem?_append_left hr]
theorem rowOf_right {g t : List Row} {j v : Nat} : rowOf (g ++ t) (g.length + j) v = rowOf t j v := by
  unfold rowOf
  rw [List.getElem?_append_right (by omega), Nat.add_sub_cancel_left]
theorem set_right {g t : List Row} {j : Nat} {x : Row} : (g ++ t).set (g.length + j) x = g ++ t.set j x := by
  rw [List.set_append_right _ _ (by omega), Nat.add_sub_cancel_left]
theorem set_left {g t : List Row} {r : Nat} {x : Row} (hr : r < g.length) : (g ++ t).set r x = g.set r x ++ t := List.set_append_left _ _ hr
/-! ### a step -/
theorem e16h (k : Nat) (h : List Row) (r : Nat) (n : Int) (hr : rowOf h r 0 = some [.i n]) (hn : ¬ n < 1) (hu : n ≤ 9223372036854775807) : evF cm (k + 1) 16 [.p r 0 0] h 0 = some (.b (decide (n = 1)), h.set r ⟨0, [.i (n - 1)]⟩) := by
  have hw : IntKind.i64.wrap (n - 1) = n - 1 := by rw [IntKind.wrap_i64]; omega
  have hd : decide (n - 1 = 0) = decide (n = 1) := by rw [decide_eq_decide]; omega
  have hs := @rowOf_set h r 0 [.i (n - 1)] (rowOf_lt hr)
  rw [evH_fun (m := c16) rfl _ _ _ _ rfl]
  simp -implicitDefEqProofs only [c16, hr, hs, hn, hw, hd, push_cast, Nat.reduceAdd, Nat.reduceMul, Nat.reduceSub, Nat.reduceLT, Nat.reduceLeDiff, Nat.reduceEqDiff, Nat.reducePow, Int.reduceToNat, Int.reduceLT, Int.reduceLE, Int.reduceNeg, Int.reduceEq, Int.reducePow, reduceIte, reduceCtorEq, Int.reduceMul, Int.reduceAdd, Int.reduceSub, Int.reduceMod, Int.reduceDiv, Int.reduceTDiv, Int.reduceTMod, iter_s]
/-! ### who is next -/
def li (L : List Int) : List Int := (liv L).map fun t : Nat => (t : Int)
theorem li_length (L : List Int) : (li L).length = (liv L).length := by simp [li]
theorem li_get (L : List Int) (i : Nat) (h : i < (liv L).length) : (li L).getD i 0 = ((liv L).getD i 0 : Nat) := by
  simp [li, List.getElem?_map, List.getElem?_eq_getElem h]
theorem bs_spec (L : List Int) (last : Int) : ((liv L).filter (fun t : Nat => !decide (last < (t : Int)))).length ≤ (li L).length ∧
    (∀ i : Nat, i < ((liv L).filter (fun t : Nat => !decide (last < (t : Int)))).length → (li L).getD i 0 < last + 1) ∧
    (∀ i : Nat, ((liv L).filter (fun t : Nat => !decide (last < (t : Int)))).length ≤ i → i < (li L).length → ¬ (li L).getD i 0 < last + 1) := by
  have hs := split_sorted last (liv L) (liv_sorted L)
  have hl := congrArg List.length hs
  rw [List.length_append] at hl
  have hA : ∀ x ∈ (liv L).filter (fun t : Nat => !decide (last < (t : Int))), ¬ last < (x : Int) := fun x hx => by simpa using (List.mem_filter.1 hx).2
  have hB : ∀ x ∈ (liv L).filter (fun t : Nat => decide (last < (t : Int))), last < (x : Int) := fun x hx => by simpa using (List.mem_filter.1 hx).2
  generalize (liv L).filter (fun t : Nat => !decide (last < (t : Int))) = A at *
  generalize (liv L).filter (fun t : Nat => decide (last < (t : Int))) = B at *
  rw [li_length]
  refine ⟨by omega, fun i hi => ?_, fun i hi hi' => ?_⟩
  · rw [li_get L i (by omega), hs]
    have e : (A ++ B).getD i 0 = A[i] := by
      rw [List.getD_eq_getElem?_getD, List.getElem?_append_left hi, List.getElem?_eq_getElem hi]; rfl
    rw [e]
    have := hA _ (List.getElem_mem hi)
    omega
  · rw [li_get L i hi', hs]
    have hi2 : i - A.length < B.length := by omega
    have e : (A ++ B).getD i 0 = B[i - A.length] := by
      rw [List.getD_eq_getElem?_getD, List.getElem?_append_right hi, List.getElem?_eq_getElem hi2]; rfl
    rw [e]
    have := hB _ (List.getElem_mem hi2)
    omega
def pkV (P : List Int) (S : LV) : Prop := (P = [] ∧ S = .nils) ∨ S = .im (P.map LV.i) P.length false
theorem e22p (k : Nat) (h : List Row) (q a b m c : Nat) (last p : Int) (P : List Int) (hq : rowOf h q 0 = some [.sl a b 0 m 1 c, .i last, .im ((p :: P).map LV.i) (p :: P).length false])
    (hp : -9223372036854775808 ≤ p ∧ p ≤ 9223372036854775807) (hm : 0 < m) (hm' : m ≤ 12) :
    ∃ PK, PK = .im (P.map LV.i) P.length false ∧ evF cm (k + 20) 22 [.p q 0 0] h 0 = some (.i (p % (m : Int)), h.set q ⟨0, [.sl a b 0 m 1 c, .i last, PK]⟩) := by
  have k24 := fun k => e24 k p m hp (by omega) (by omega)
  rw [evH_fun (m := c22) rfl _ _ _ _ rfl]
  have g1 : (0 : Int) < (P.length : Int) + 1 := by omega
  cases P with
  | nil =>
    refine ⟨.im [] 0 false, rfl, ?_⟩
    simp -implicitDefEqProofs only [c22, hq, k24, g1, push_cast, Nat.reduceAdd, Nat.reduceMul, Nat.reduceSub, Nat.reduceLT, Nat.reduceLeDiff, Nat.reduceEqDiff, Nat.reducePow, Int.reduceToNat, Int.reduceLT, Int.reduceLE, Int.reduceNeg, Int.reduceEq, Int.reducePow, reduceIte, reduceCtorEq, Int.reduceMul, Int.reduceAdd, Int.reduceSub, Int.reduceMod, Int.reduceDiv, Int.reduceTDiv, Int.reduceTMod, iter_s]
  | cons y P =>
    refine ⟨.im ((y :: P).map .i) (y :: P).length false, rfl, ?_⟩
    have g2 : (0 : Int) < (P.length : Int) + 1 + 1 := by omega
    have g3 : (1 : Int) ≤ (P.length : Int) + 1 + 1 := by omega
    have g4 : ¬ (1 : Int) = (P.length : Int) + 1 + 1 := by omega
    have g5 : ((P.length : Int) + 1 + 1).toNat - 1 = P.length + 1 := by omega
    have g6 : List.take P.length (P.map LV.i) = P.map LV.i := List.take_of_length_le (by simp)
    simp -implicitDefEqProofs only [c22, hq, k24, g2, g3, g4, g5, g6, Int.le_refl, push_cast, Nat.reduceAdd, Nat.reduceMul, Nat.reduceSub, Nat.reduceLT, Nat.reduceLeDiff, Nat.reduceEqDiff, Nat.reducePow, Int.reduceToNat, Int.reduceLT, Int.reduceLE, Int.reduceNeg, Int.reduceEq, Int.reducePow, reduceIte, reduceCtorEq, Int.reduceMul, Int.reduceAdd, Int.reduceSub, Int.reduceMod, Int.reduceDiv, Int.reduceTDiv, Int.reduceTMod, iter_s]
theorem e22q (k : Nat) (h : List Row) (q a b m c : Nat) (last p : Int) (P : List Int) (hq : rowOf h q 0 = some [.sl a b 0 m 1 c, .i last, .im ((p :: P).map LV.i) (p :: P).length false])
    (hp : -9223372036854775808 ≤ p ∧ p ≤ 9223372036854775807) (hm : 0 < m) (hm' : m ≤ 12) :
    ∃ PK, PK = .im (P.map LV.i) P.length false ∧ evF cm (k + 20) 22 [.p q 0 0] h 0 = some (.i (p % (m : Int)), h.set q ⟨0, [.sl a b 0 m 1 c, .i last, PK]⟩) := by
  obtain ⟨PK, h1, h2⟩ := e22p k h q a b m c last p P hq hp hm hm'
  exact ⟨PK, h1, h2⟩
theorem e22e (k : Nat) (h : List Row) (q a b c : Nat) (last : Int) (PK : LV) (L : List Int) (Z : List LV) (hq : rowOf h q 0 = some [.sl a b 0 (liv L).length 1 c, .i last, PK]) (hp : pkV [] PK)
    (ha : rowOf h a b = some ((li L).map LV.i ++ Z)) (hl : -1 ≤ last ∧ last < L.length) (hL : L.length ≤ 12) (hv : liv L ≠ []) :
    ∃ i : Nat, (liv L)[i]? = some ((ring L last).headD 0) ∧ evF cm (k + 22) 22 [.p q 0 0] h 0 = some (.i i, h) := by
  have hn : (liv L).length ≤ 12 := by have := cnt_le L L.length; rw [liv_length]; omega
  have hv0 := List.length_pos_iff.2 hv
  obtain ⟨b1, b2, b3⟩ := bs_spec L last
  have hh := ring_head last hv
  generalize ((liv L).filter (fun t : Nat => !decide (last < (t : Int)))).length = x at *
  have k25 : ∀ k, ∃ fb, evP (evF cm (k + 20)) 25 [.im ((li L).map LV.i) (liv L).length false, .i (last + 1)] = some (.tup [.i x, .b fb]) := by
    intro k
    have := e25 k (li L) _ (slI_im (li L) false) (by rw [li_length]; exact hn) (last + 1) x b1 b2 b3
    rw [li_length] at this
    exact this
  obtain ⟨fb, k25⟩ := k25 (k + 1)
  have lenz : lenE PK = some (.i 0) := by
    rcases hp with ⟨_, rfl⟩ | rfl <;> rfl
  rw [evH_fun (m := c22) rfl _ _ _ _ rfl]
  have w1 : IntKind.i64.wrap (last + 1) = last + 1 := w64 _ (by omega) (by omega)
  have t1 : List.take (liv L).length ((li L).map LV.i ++ Z) = (li L).map LV.i := by
    rw [List.take_append_of_le_length (by simp [li_length])]
    exact List.take_of_length_le (by simp [li_length])
  have t2 : (liv L).length ≤ ((li L).map LV.i ++ Z).length := by simp [li_length]
  have cl := closedL_ints (li L)
  have g0 : ¬ ((liv L).length : Int) = 0 := by omega
  have tm : (x : Int).tmod ((liv L).length : Int) = ((x % (liv L).length : Nat) : Int) := by
    rw [Int.tmod_eq_emod_of_nonneg (by omega)]; rfl
  refine ⟨_, hh, ?_⟩
  simp -implicitDefEqProofs only [c22, hq, ha, k25, lenz, w1, t1, t2, cl, g0, tm, call_B, orF_some, flat, flatL, push_cast, Nat.reduceAdd, Nat.reduceMul, Nat.reduceSub, Nat.reduceLT, Nat.reduceLeDiff, Nat.reduceEqDiff, Nat.reducePow, Int.reduceToNat, Int.reduceLT, Int.reduceLE, Int.reduceNeg, Int.reduceEq, Int.reducePow, reduceIte, reduceCtorEq, Int.reduceMul, Int.reduceAdd, Int.reduceSub, Int.reduceMod, Int.reduceDiv, Int.reduceTDiv, Int.reduceTMod, iter_s]
/-- A place is taken out. -/
theorem e23 (k : Nat) (h : List Row) (a b c i : Nat) (V : List Int) (Z : List LV) (ha : rowOf h a b = some (V.map LV.i ++ Z)) (hc : V.length ≤ c) (hi : i < V.length) (hV : V.length ≤ 12) :
    evF cm (k + 1) 23 [.sl a b 0 V.length 1 c, .i i, .i ((i : Int) + 1)] h 0 = some (.sl a b 0 (V.length - 1) 1 c, h.set a ⟨b, (V.eraseIdx i).map LV.i ++ .i 0 :: Z⟩) := by
  have hlt := rowOf_lt ha
  rw [evH_fun (m := c23) rfl _ _ _ _ rfl]
  have g1 : (i : Int) ≤ (i : Int) + 1 := by omega
  have g2 : (i : Int) + 1 ≤ (V.length : Int) := by omega
  have g3 : (V.length : Int) ≤ (c : Int) := by omega
  have g4 : ¬ (i : Int) = (V.length : Int) := by omega
  have g5 : (0 : Int) ≤ (i : Int) := by omega
  have g6 : ¬ (i : Int) = (i : Int) + 1 := by omega
  have g7 : (i : Int) ≤ (c : Int) := by omega
  have g8 : ¬ (0 : Int) = (c : Int) := by omega
  have g9 : (0 : Int) ≤ (i : Int) + 1 := by omega
  have n1 : ((i : Int) + 1).toNat = i + 1 := by omega
  have u1 : List.drop (i + 1) (V.map LV.i ++ Z) = (V.drop (i + 1)).map LV.i ++ Z := by
    rw [List.drop_append_of_le_length (by simp; omega), List.map_drop]
  have u2 : List.take (V.length - (i + 1)) ((V.drop (i + 1)).map LV.i ++ Z) = (V.drop (i + 1)).map LV.i := by
    rw [List.take_append_of_le_length (by simp), List.take_of_length_le (by simp)]
  have u3 : ((V.drop (i + 1)).map LV.i).all atomB = true := by
    generalize V.drop (i + 1) = D
    induction D with
    | nil => rfl
    | cons x D ih => exact ih
  have u4 : List.take i (V.map LV.i ++ Z) = (V.take i).map LV.i := by
    rw [List.take_append_of_le_length (by simp; omega), List.map_take]
  have u5 : ((V.drop (i + 1)).map LV.i).length = V.length - (i + 1) := by simp
  obtain ⟨y, hy⟩ : ∃ y, List.drop (V.length - 1) (V.map LV.i ++ Z) = LV.i y :: Z := by
    refine ⟨V[V.length - 1], ?_⟩
    rw [List.drop_append_of_le_length (by simp), ← List.map_drop, List.drop_eq_getElem_cons (by omega), List.drop_of_length_le (by omega)]
    rfl
  have hE : (V.take i).map LV.i ++ (V.drop (i + 1)).map LV.i = (V.eraseIdx i).map LV.i := by rw [List.eraseIdx_eq_take_drop_succ, List.map_append]
  have hEl : ((V.eraseIdx i).map LV.i).length = V.length - 1 := by simp [List.length_eraseIdx, hi]
  have g10 : i + (V.length - (i + 1)) = V.length - 1 := by omega
  have g11 : V.length - 1 ≤ c := by omega
  have g12 : V.length - 1 ≤ (V.map LV.i ++ Z).length := by simp; omega
  have hs := fun cs => @rowOf_set h a b cs hlt
  have g13 : ((V.length - 1 : Nat) : Int) ≤ (V.length : Int) := by omega
  have g14 : ¬ ((V.length - 1 : Nat) : Int) = (c : Int) := by omega
  have g15 : V.length - (V.length - 1) = 1 := by omega
  have g16 : i + 1 + (V.length - (i + 1)) ≤ (V.map LV.i ++ Z).length := by simp; omega
  have hTl : List.take (V.length - 1) ((V.eraseIdx i).map LV.i ++ LV.i y :: Z) = (V.eraseIdx i).map LV.i := by rw [← hEl, List.take_left']; rfl
  have hDr : List.drop (V.length - 1 + 1) ((V.eraseIdx i).map LV.i ++ LV.i y :: Z) = Z := by rw [← hEl, List.drop_append]; simp
  by_cases hic : i + 1 = c
  · subst hic
    have hvl : V.length = i + 1 := by omega
    have d1 : V.length - 1 = i := by omega
    rw [d1] at hy hEl hTl hDr
    have hE2 : (V.take i).map LV.i = (V.eraseIdx i).map LV.i := by
      rw [← hE, List.drop_of_length_le (by omega)]; simp
    have m1 : i ≤ (V.map LV.i ++ Z).length := by simp; omega
    have m2 : i ≤ i + 1 := by omega
    have m3 : i + 1 - i = 1 := by omega
    have m5 : ¬ (0 : Int) = (i : Int) + 1 := by omega
    have m4 : i + 1 ≤ ((V.eraseIdx i).map LV.i ++ LV.i y :: Z).length := by rw [List.length_append, hEl]; simp
    simp -implicitDefEqProofs only [c23, ha, hvl, g1, g5, g6, g9, n1, u4, hy, hE2, hs, m1, m2, m3, m4, m5, hTl, hDr, Int.le_refl, Nat.sub_zero, Nat.add_sub_cancel, List.set_set, List.append_assoc, push_cast, Nat.reduceAdd, Nat.reduceMul, Nat.reduceSub, Nat.reduceLT, Nat.reduceLeDiff, Nat.reduceEqDiff, Nat.reducePow, Int.reduceToNat, Int.reduceLT, Int.reduceLE, Int.reduceNeg, Int.reduceEq, Int.reducePow, reduceIte, reduceCtorEq, Int.reduceMul, Int.reduceAdd, Int.reduceSub, Int.reduceMod, Int.reduceDiv, Int.reduceTDiv, Int.reduceTMod, iter_s]
  · have hic' : ¬ (i : Int) + 1 = (c : Int) := by omega
    have m4 : V.length - 1 + 1 ≤ ((V.eraseIdx i).map LV.i ++ LV.i y :: Z).length := by rw [List.length_append, hEl]; simp
    have m5 : (0 : Int) ≤ ((V.length - 1 : Nat) : Int) := by omega
    simp -implicitDefEqProofs only [c23, ha, g1, g2, g3, g4, g5, g6, g7, g8, g9, n1, u1, u2, u3, u4, u5, hy, hE, g10, g11, g12, hs, g13, g14, g15, g16, hic', m4, m5, hTl, hDr, Int.le_refl, Nat.sub_zero, List.set_set, List.append_assoc, push_cast, Nat.reduceAdd, Nat.reduceMul, Nat.reduceSub, Nat.reduceLT, Nat.reduceLeDiff, Nat.reduceEqDiff, Nat.reducePow, Int.reduceToNat, Int.reduceLT, Int.reduceLE, Int.reduceNeg, Int.reduceEq, Int.reducePow, reduceIte, reduceCtorEq, Int.reduceMul, Int.reduceAdd, Int.reduceSub, Int.reduceMod, Int.reduceDiv, Int.reduceTDiv, Int.reduceTMod, iter_s]
end Go.Proofs.Ytbmfmcimcdajcaa
