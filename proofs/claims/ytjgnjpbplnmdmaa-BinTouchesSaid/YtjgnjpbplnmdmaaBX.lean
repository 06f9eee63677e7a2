/- The tiles that a rectangle covers, as the evaluator answers. -/
import Derived.Test.YtjgnjpbplnmdmaaBW
import Derived.Test.YtjgnjpbplnmdmaaEng18
set_option linter.unusedSimpArgs false
set_option linter.unusedVariables false
set_option linter.unusedSectionVars false
set_option maxRecDepth 100000
set_option maxHeartbeats 16000000
namespace Go.Proofs.Ytjgnjpbplnmdmaa
open Go
/-! ### rows -/
theorem rowOf_at {h : List Row} {k v : Nat} {cs : List LV} (e : h[k]? = some ⟨v, cs⟩) : rowOf h k v = some cs := by
  unfold rowOf; rw [e]; simp
theorem rowOf_app_lt {h t : List Row} {k v : Nat} (hk : k < h.length) : rowOf (h ++ t) k v = rowOf h k v := by
  unfold rowOf; rw [List.getElem?_append_left hk]
theorem rowEnd (Y : List Row) (cs : List LV) : rowOf (Y ++ [⟨0, cs⟩]) Y.length 0 = some cs := by
  unfold rowOf; rw [List.getElem?_append_right (Nat.le_refl _)]; simp
theorem setEnd (Y : List Row) (a x : Row) : (Y ++ [a]).set Y.length x = Y ++ [x] := by
  rw [List.set_append_right _ _ (Nat.le_refl _)]; simp
/-! ### lists that grow -/
def slv : List Int → LV
  | [] => .nils
  | x :: l => .im ((x :: l).map LV.i) (l.length + 1) false
theorem slv_slI : ∀ l, SlI l (slv l)
  | [] => slI_nil
  | x :: l => slI_im (x :: l) false
def Grows (h : List Row) (b r : Nat) (l : List Int) : Prop := b ≤ h.length ∧ (l ≠ [] → b ≤ r ∧ h[r]? = some ⟨l.length - 1, l.map LV.i⟩)
theorem Grows.app {h : List Row} {b r : Nat} {l : List Int} (G : Grows h b r l) (t : List Row) : Grows (h ++ t) b r l := by
  refine ⟨by rw [List.length_append]; have := G.1; omega, fun hl => ?_⟩
  obtain ⟨h1, h2⟩ := G.2 hl
  refine ⟨h1, ?_⟩
  rw [List.getElem?_append_left (List.getElem?_eq_some_iff.1 h2).1]; exact h2
theorem Grows.more {h : List Row} {b r : Nat} {l : List Int} (G : Grows h b r l) (x : Int) (hn : l.length < 100000) :
    ∃ h1 r1, appE 0 h 1 8 [.i x] 1 (outG 1 r l.length) = some (outG 1 r1 (l.length + 1), h1) ∧ Grows h1 b r1 (l ++ [x]) ∧ ∀ k, k < b → h1[k]? = h[k]? := by
  cases l with
  | nil =>
    refine ⟨h ++ [⟨0, [.i x]⟩], h.length, by simp [outG, appE], ⟨by rw [List.length_append]; have := G.1; omega, fun _ => ⟨G.1, ?_⟩⟩, fun k hk => List.getElem?_append_left (by have := G.1; omega)⟩
    rw [List.getElem?_append_right (Nat.le_refl _)]; simp
  | cons y l =>
    obtain ⟨h1, h2⟩ := G.2 (by simp)
    have hr := rowOf_at h2
    have hlt := (List.getElem?_eq_some_iff.1 h2).1
    simp only [List.length_cons, Nat.add_sub_cancel] at hr hn
    refine ⟨h.set r ⟨l.length + 1, (y :: l).map LV.i ++ [.i x]⟩, r, ?_, ⟨by rw [List.length_set]; exact G.1, fun _ => ⟨h1, ?_⟩⟩, fun k hk => List.getElem?_set_ne (by omega)⟩
    · simp only [List.length_cons, outG, appE, hr, Nat.not_lt_zero, if_false]
      rw [if_neg (by omega), if_pos ⟨by omega, trivial, trivial, by simp, by omega, by omega⟩]
    · rw [List.getElem?_set_self hlt]; simp
theorem outG_cells (e r0 i : Nat) : (outG e r0 i).cells = [outG e r0 i] := by cases i <;> rfl
theorem outG_atom (e r0 i : Nat) : atomB (outG e r0 i) = true := by cases i <;> rfl
def fl (P : Nat → Bool) : Nat → List Int
  | 0 => []
  | i + 1 => if P i = true then fl P i ++ [(i : Int)] else fl P i
theorem fl_len (P : Nat → Bool) : ∀ i, (fl P i).length ≤ i
  | 0 => Nat.le_refl _
  | i + 1 => by
    have := fl_len P i
    unfold fl
    split
    · simp; omega
    · omega
theorem fl_ext {P Q : Nat → Bool} : ∀ n, (∀ i, i < n → P i = Q i) → fl P n = fl Q n
  | 0, _ => rfl
  | n + 1, h => by
    unfold fl
    rw [fl_ext n fun i hi => h i (by omega), h n (by omega)]
/-! ### tiles of a rectangle -/
/-- Has a tile no pixel of a rectangle? -/
def off (w h x0 y0 x1 y1 n : Int) : Bool := emp (hi (tx w n) x0) (hi (ty w n) y0) (lo (lo (tx w n + 16) w) x1) (lo (lo (ty w n + 16) h) y1)
def offq (w h x0 y0 x1 y1 n : Int) : Bool := emp (hi (tx w n) (hi 0 x0)) (hi (ty w n) (hi 0 y0)) (lo (lo (tx w n + 16) w) (lo w x1)) (lo (lo (ty w n + 16) h) (lo h y1))
theorem off_q {w h n : Int} (hp : pic w h) (hn : 0 ≤ n ∧ n < cols w * cols h) (x0 y0 x1 y1 : Int) : offq w h x0 y0 x1 y1 n = off w h x0 y0 x1 y1 n := by
  obtain ⟨⟨b1, b2⟩, b3, b4⟩ := tile_in hp hn
  have e1 : hi (tx w n) (hi 0 x0) = hi (tx w n) x0 := by unfold hi; split <;> split <;> (try split) <;> (try split) <;> omega
  have e2 : hi (ty w n) (hi 0 y0) = hi (ty w n) y0 := by unfold hi; split <;> split <;> (try split) <;> (try split) <;> omega
  have e3 : lo (lo (tx w n + 16) w) (lo w x1) = lo (lo (tx w n + 16) w) x1 := by unfold lo; (repeat' split) <;> omega
  have e4 : lo (lo (ty w n + 16) h) (lo h y1) = lo (lo (ty w n + 16) h) y1 := by unfold lo; (repeat' split) <;> omega
  unfold offq off
  rw [e1, e2, e3, e4]
theorem off_e {w h n : Int} (hp : pic w h) (hn : 0 ≤ n ∧ n < cols w * cols h) {x0 y0 x1 y1 : Int} (he : emp (hi 0 x0) (hi 0 y0) (lo w x1) (lo h y1) = true) : off w h x0 y0 x1 y1 n = true := by
  obtain ⟨⟨b1, b2⟩, b3, b4⟩ := tile_in hp hn
  unfold emp at he
  unfold off emp
  simp only [Bool.or_eq_true, decide_eq_true_eq] at he ⊢
  unfold hi lo at *
  rcases he with he | he
  · left; revert he; (repeat' split) <;> omega
  · right; revert he; (repeat' split) <;> omega

theorem fl_none {w h x0 y0 x1 y1 : Int} (hp : pic w h) (he : emp (hi 0 x0) (hi 0 y0) (lo w x1) (lo h y1) = true) : ∀ i, i ≤ (cols w * cols h).toNat → fl (fun i => !off w h x0 y0 x1 y1 i) i = []
  | 0, _ => rfl
  | i + 1, h => by
    have := off_e (n := i) hp (by omega) he
    unfold fl
    rw [fl_none hp he i (by omega)]
    simp [this]
theorem tl63 {T : List LV} (h : T.length = 63) : T = [getT T 0, getT T 1, getT T 2, getT T 3, getT T 4, getT T 5, getT T 6, getT T 7, getT T 8, getT T 9, getT T 10, getT T 11, getT T 12, getT T 13, getT T 14, getT T 15, getT T 16, getT T 17, getT T 18, getT T 19, getT T 20, getT T 21, getT T 22, getT T 23, getT T 24, getT T 25, getT T 26, getT T 27, getT T 28, getT T 29, getT T 30, getT T 31, getT T 32, getT T 33, getT T 34, getT T 35, getT T 36, getT T 37, getT T 38, getT T 39, getT T 40, getT T 41, getT T 42, getT T 43, getT T 44, getT T 45, getT T 46, getT T 47, getT T 48, getT T 49, getT T 50, getT T 51, getT T 52, getT T 53, getT T 54, getT T 55, getT T 56, getT T 57, getT T 58, getT T 59, getT T 60, getT T 61, getT T 62] := tlT h
def fgC : List Nat := [61, 60, 59, 58, 57, 56, 55, 54, 53, 52, 51, 50, 45, 49, 48, 47, 46, 44, 43]
def SC (w h x0 y0 x1 y1 : Int) (i : Nat) (s : St) : Prop := ∃ T hh r, s = (T, hh) ∧ T.length = 63 ∧ getT T 0 = .i w ∧ getT T 1 = .i h ∧ getT T 10 = .p 2 0 0 ∧ getT T 14 = outG 1 r (fl (fun i => !off w h x0 y0 x1 y1 i) i).length ∧ getT T 41 = .i (cols w * cols h) ∧ getT T 42 = .i i ∧ hh[2]? = some ⟨0, [.i (hi 0 x0), .i (hi 0 y0), .i (lo w x1), .i (lo h y1)]⟩ ∧ Grows hh 3 r (fl (fun i => !off w h x0 y0 x1 y1 i) i)
theorem cover_round (K : Nat) (hK : 20 ≤ K) (w h x0 y0 x1 y1 : Int) (hp : pic w h) (i : Nat) (s : St) (hi' : i < (cols w * cols h).toNat) (hs : SC w h x0 y0 x1 y1 i s) :
    ∃ s', evCode (evF cm K) K 0 c16b0 (cleanN fgC s) = some (.nrm, s') ∧ SC w h x0 y0 x1 y1 (i + 1) s' := by
  obtain ⟨k, rfl⟩ : ∃ k, K = k + 20 := ⟨K - 20, by omega⟩
  obtain ⟨T, hh, r, rfl, ht, t0, t1, t10, t14, t41, t42, q2, G⟩ := hs
  rw [tl63 ht]
  have hcc := cc_bound hp
  have hn : 0 ≤ (i : Int) ∧ (i : Int) < cols w * cols h := by omega
  have g1 : (i : Int) < cols w * cols h := hn.2
  have w1 : IntKind.i64.wrap ((i : Int) + 1) = ((i + 1 : Nat) : Int) := by rw [w64 _ (by omega) (by omega)]; rfl
  have hq := off_q hp hn x0 y0 x1 y1
  have hl := fl_len (fun i => !off w h x0 y0 x1 y1 i) i
  have k11 := fun k => w_box k w h i hp hn
  have l2 := (List.getElem?_eq_some_iff.1 q2).1
  have ra : ∀ x : Row, rowOf (hh ++ [x]) 2 0 = some [.i (hi 0 x0), .i (hi 0 y0), .i (lo w x1), .i (lo h y1)] := fun x => by rw [rowOf_app_lt l2]; exact rowOf_at q2
  have rb := rowEnd
  have sb := setEnd
  have Gx := G.app [(⟨0, [.i (tx w i), .i (ty w i), .i (lo (tx w i + 16) w), .i (lo (ty w i + 16) h)]⟩ : Row)]
  have q2x : (hh ++ [(⟨0, [.i (tx w i), .i (ty w i), .i (lo (tx w i + 16) w), .i (lo (ty w i + 16) h)]⟩ : Row)])[2]? = some ⟨0, [.i (hi 0 x0), .i (hi 0 y0), .i (lo w x1), .i (lo h y1)]⟩ := by rw [List.getElem?_append_left l2]; exact q2
  unfold SC
  cases ho : off w h x0 y0 x1 y1 i with
  | true =>
    rw [ho] at hq
    have k22 := fun k => w_andz k _ _ _ _ _ _ _ _ hq
    have ec : fl (fun i => !off w h x0 y0 x1 y1 i) (i + 1) = fl (fun i => !off w h x0 y0 x1 y1 i) i := by simp [fl, ho]
    rw [ec]
    simp -implicitDefEqProofs only [c16b0, fgC, t0, t1, t10, t14, t41, t42, g1, w1, k11, k22, w_empty, emp0, ra, rb, sb, push_cast, Nat.reduceAdd, Nat.reduceMul, Nat.reduceSub, Nat.reduceLT, Nat.reduceLeDiff, Nat.reduceEqDiff, Nat.reducePow, Int.reduceToNat, Int.reduceLT, Int.reduceLE, Int.reduceNeg, Int.reduceEq, Int.reducePow, reduceIte, reduceCtorEq, Int.reduceMul, Int.reduceAdd, Int.reduceSub, Int.reduceMod, Int.reduceDiv, Int.reduceTDiv, Int.reduceTMod, iter_s]
    refine ⟨_, rfl, ?_⟩
    exact ⟨_, _, r, rfl, rfl, rfl, rfl, rfl, rfl, rfl, rfl, q2x, Gx⟩
  | false =>
    rw [ho] at hq
    have k22 := fun k => w_and k _ _ _ _ _ _ _ _ hq
    have hq' : emp (hi (tx w i) (hi 0 x0)) (hi (ty w i) (hi 0 y0)) (lo (lo (tx w i + 16) w) (lo w x1)) (lo (lo (ty w i + 16) h) (lo h y1)) = false := hq
    have ec : fl (fun i => !off w h x0 y0 x1 y1 i) (i + 1) = fl (fun i => !off w h x0 y0 x1 y1 i) i ++ [(i : Int)] := by simp [fl, ho]
    rw [ec]
    obtain ⟨h1, r1, ap, G1, same⟩ := Gx.more (i : Int) (by omega)
    have q21 := (same 2 (by omega)).trans q2x
    have cc := fun e r i => outG_cells e r i
    have ca := fun e r i => outG_atom e r i
    simp -implicitDefEqProofs only [c16b0, fgC, t0, t1, t10, t14, t41, t42, g1, w1, k11, k22, w_empty, hq', ra, rb, sb, ap, cc, ca, push_cast, Nat.reduceAdd, Nat.reduceMul, Nat.reduceSub, Nat.reduceLT, Nat.reduceLeDiff, Nat.reduceEqDiff, Nat.reducePow, Int.reduceToNat, Int.reduceLT, Int.reduceLE, Int.reduceNeg, Int.reduceEq, Int.reducePow, reduceIte, reduceCtorEq, Int.reduceMul, Int.reduceAdd, Int.reduceSub, Int.reduceMod, Int.reduceDiv, Int.reduceTDiv, Int.reduceTMod, iter_s]
    refine ⟨_, rfl, ?_⟩
    exact ⟨_, _, r1, rfl, rfl, rfl, rfl, rfl, by rw [List.length_append]; rfl, rfl, rfl, q21, G1⟩
theorem cover_last (K : Nat) (w h x0 y0 x1 y1 : Int) (hp : pic w h) (s : St) (hs : SC w h x0 y0 x1 y1 (cols w * cols h).toNat s) :
    ∃ s', evCode (evF cm K) K 0 c16b0 (cleanN fgC s) = some (.exit 0, s') ∧ SC w h x0 y0 x1 y1 (cols w * cols h).toNat s' := by
  obtain ⟨T, hh, r, rfl, ht, t0, t1, t10, t14, t41, t42, q2, G⟩ := hs
  rw [tl63 ht]
  have hcc := cc_bound hp
  have g1 : ¬ (((cols w * cols h).toNat : Nat) : Int) < cols w * cols h := by omega
  simp -implicitDefEqProofs only [c16b0, fgC, t0, t1, t10, t14, t41, t42, g1, push_cast, Nat.reduceAdd, Nat.reduceMul, Nat.reduceSub, Nat.reduceLT, Nat.reduceLeDiff, Nat.reduceEqDiff, Nat.reducePow, Int.reduceToNat, Int.reduceLT, Int.reduceLE, Int.reduceNeg, Int.reduceEq, Int.reducePow, reduceIte, reduceCtorEq, Int.reduceMul, Int.reduceAdd, Int.reduceSub, Int.reduceMod, Int.reduceDiv, Int.reduceTDiv, Int.reduceTMod, iter_s]
  refine ⟨_, rfl, ?_⟩
  exact ⟨_, hh, r, rfl, rfl, rfl, rfl, rfl, rfl, rfl, rfl, q2, G⟩
theorem w_coverf (k : Nat) (w h x0 y0 x1 y1 : Int) (hp : ¬ pic w h) : evP (evF cm (k + 400)) 16 [.i w, .i h, .agg [.i x0, .i y0, .i x1, .i y1]] = some (.tup [.nils, .i 3]) := by
  rw [evP_fun (m := c16) rfl _ _ rfl]
  simp -implicitDefEqProofs only [c16, w_picturef _ _ _ hp, push_cast, Nat.reduceAdd, Nat.reduceMul, Nat.reduceSub, Nat.reduceLT, Nat.reduceLeDiff, Nat.reduceEqDiff, Nat.reducePow, Int.reduceToNat, Int.reduceLT, Int.reduceLE, Int.reduceNeg, Int.reduceEq, Int.reducePow, reduceIte, reduceCtorEq, Int.reduceMul, Int.reduceAdd, Int.reduceSub, Int.reduceMod, Int.reduceDiv, Int.reduceTDiv, Int.reduceTMod]
theorem w_cover (k : Nat) (w h x0 y0 x1 y1 : Int) (hp : pic w h) : evP (evF cm (k + 400)) 16 [.i w, .i h, .agg [.i x0, .i y0, .i x1, .i y1]] = some (.tup [slv (fl (fun i => !off w h x0 y0 x1 y1 i) (cols w * cols h).toNat), .i 0]) := by
  rw [evP_fun (m := c16) rfl _ _ rfl]
  have hcc := cc_bound hp
  have w1 : IntKind.i64.wrap (cols w * cols h) = cols w * cols h := w64 _ (by omega) (by omega)
  cases he : emp (hi 0 x0) (hi 0 y0) (lo w x1) (lo h y1) with
  | true =>
    rw [fl_none hp he _ (Nat.le_refl _)]
    have k22 := fun k => w_andz k _ _ _ _ _ _ _ _ he
    simp -implicitDefEqProofs only [c16, slv, w_picture _ _ _ hp, k22, w_empty, emp0, push_cast, Nat.reduceAdd, Nat.reduceMul, Nat.reduceSub, Nat.reduceLT, Nat.reduceLeDiff, Nat.reduceEqDiff, Nat.reducePow, Int.reduceToNat, Int.reduceLT, Int.reduceLE, Int.reduceNeg, Int.reduceEq, Int.reducePow, reduceIte, reduceCtorEq, Int.reduceMul, Int.reduceAdd, Int.reduceSub, Int.reduceMod, Int.reduceDiv, Int.reduceTDiv, Int.reduceTMod]
  | false =>
    have k22 := fun k => w_and k _ _ _ _ _ _ _ _ he
    have key : ∀ s I, iter (evCode (evF cm (k + 399)) (k + 399) 0 c16b0) (cleanN fgC) (k + 399) s = I → SC w h x0 y0 x1 y1 0 s → ∃ s', I = some (.exit 0, s') ∧ SC w h x0 y0 x1 y1 (cols w * cols h).toNat s' := by
      intro s I hI hs
      obtain ⟨s', h1, h3⟩ := iter_count (fun i s hi hs => cover_round (k + 399) (by omega) w h x0 y0 x1 y1 hp i s hi hs) (fun s hs => cover_last (k + 399) w h x0 y0 x1 y1 hp s hs) (cols w * cols h).toNat 0 s (k + 399) (by omega) (by omega) hs
      exact ⟨s', hI.symm.trans h1, h3⟩
    simp -implicitDefEqProofs only [c16, w_picture _ _ _ hp, k22, w_empty, he, w_count _ _ _ hp, w1, push_cast, Nat.reduceAdd, Nat.reduceMul, Nat.reduceSub, Nat.reduceLT, Nat.reduceLeDiff, Nat.reduceEqDiff, Nat.reducePow, Int.reduceToNat, Int.reduceLT, Int.reduceLE, Int.reduceNeg, Int.reduceEq, Int.reducePow, reduceIte, reduceCtorEq, Int.reduceMul, Int.reduceAdd, Int.reduceSub, Int.reduceMod, Int.reduceDiv, Int.reduceTDiv, Int.reduceTMod]
    generalize hI : iter _ _ _ _ = I
    obtain ⟨s', hI2, T, hh, r, rfl, ht, t0, t1, t10, t14, t41, t42, q2, G⟩ := key _ _ hI ⟨_, _, 0, rfl, rfl, rfl, rfl, rfl, rfl, rfl, rfl, rfl, ⟨Nat.le_refl _, fun h => absurd rfl h⟩⟩
    subst hI2
    clear hI
    rw [tl63 ht]
    cases hc : fl (fun i => !off w h x0 y0 x1 y1 i) (cols w * cols h).toNat with
    | nil =>
      rw [hc] at t14
      simp -implicitDefEqProofs only [outG, slv, t14, List.length_nil, push_cast, Nat.reduceAdd, Nat.reduceMul, Nat.reduceSub, Nat.reduceLT, Nat.reduceLeDiff, Nat.reduceEqDiff, Nat.reducePow, Int.reduceToNat, Int.reduceLT, Int.reduceLE, Int.reduceNeg, Int.reduceEq, Int.reducePow, reduceIte, reduceCtorEq, Int.reduceMul, Int.reduceAdd, Int.reduceSub, Int.reduceMod, Int.reduceDiv, Int.reduceTDiv, Int.reduceTMod]
    | cons x l =>
      rw [hc] at t14 G
      have rr := rowOf_at (G.2 (by simp)).2
      simp only [List.length_cons, Nat.add_sub_cancel] at rr t14
      have h0 : (List.map LV.i l).length = l.length := List.length_map _
      have h1 : List.take l.length (List.map LV.i l) = List.map LV.i l := List.take_of_length_le (by rw [h0]; omega)
      have h2 := closedL_ints l
      simp -implicitDefEqProofs only [outG, slv, t14, rr, h0, h1, h2, push_cast, Nat.reduceAdd, Nat.reduceMul, Nat.reduceSub, Nat.reduceLT, Nat.reduceLeDiff, Nat.reduceEqDiff, Nat.reducePow, Int.reduceToNat, Int.reduceLT, Int.reduceLE, Int.reduceNeg, Int.reduceEq, Int.reducePow, reduceIte, reduceCtorEq, Int.reduceMul, Int.reduceAdd, Int.reduceSub, Int.reduceMod, Int.reduceDiv, Int.reduceTDiv, Int.reduceTMod]
end Go.Proofs.Ytjgnjpbplnmdmaa
