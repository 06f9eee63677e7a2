/- However the steps of an owner and of thieves come, each number that was pushed is got, once (DequeOnce): what is looked at behind a run, as the evaluator answers. -/
import Derived.Test.YtjoldlaoncdcgaaEI
set_option linter.unusedSimpArgs false
set_option linter.unusedVariables false
set_option maxRecDepth 100000
set_option maxHeartbeats 16000000
namespace Go.Proofs.Ytjoldlaoncdcgaa
open Go
/-! ### how often a number is there -/
def fg13 : List Nat := [12, 11, 20, 19, 18, 17, 16, 15, 14, 13, 10, 9, 8, 7]
theorem tl22 {T : List LV} (h : T.length = 22) : T = [getT T 0, getT T 1, getT T 2, getT T 3, getT T 4, getT T 5, getT T 6, getT T 7, getT T 8, getT T 9, getT T 10, getT T 11, getT T 12, getT T 13, getT T 14, getT T 15, getT T 16, getT T 17, getT T 18, getT T 19, getT T 20, getT T 21] := tlT h
theorem count_take (L : List Int) (x : Int) (i : Nat) (h : i < L.length) : (L.take (i + 1)).count x = if L.getD i 0 = x then (L.take i).count x + 1 else (L.take i).count x := by
  rw [List.take_add_one, List.count_append, List.getElem?_eq_getElem h, List.getD_eq_getElem?_getD, List.getElem?_eq_getElem h]
  simp only [Option.toList_some, Option.getD_some]
  by_cases e : L[i] = x
  · rw [if_pos e, e]; simp
  · rw [if_neg e]; simp [List.count_cons, e]
def S13 (L : List Int) (S : LV) (x : Int) (i : Nat) (s : St) : Prop := ∃ T, s = (T, []) ∧ T.length = 22 ∧ getT T 0 = S ∧ getT T 1 = .i x ∧ getT T 5 = .i ((L.take i).count x : Nat) ∧ getT T 6 = .i i
theorem step13 (K : Nat) (L : List Int) (S : LV) (hS : SlI L S) (hl : L.length ≤ 10000) (x : Int) (i : Nat) (s : St) (hi : i < L.length) (hs : S13 L S x i s) :
    ∃ s', evCode (evF cm K) K 0 c17b0 (cleanN fg13 s) = some (.nrm, s') ∧ S13 L S x (i + 1) s' := by
  obtain ⟨T, rfl, ht, t0, t1, t5, t6⟩ := hs
  rw [tl22 ht]
  have g1 : (i : Int) < L.length := by omega
  have hx := hS.ix i (by omega) g1
  have hr := rd_ints L i hi
  have hr' := rd_ints' L i hi
  rw [Int.toNat_natCast] at hx
  have hc := count_take L x i hi
  have hb : (L.take i).count x ≤ i := by
    have := List.count_le_length (a := x) (l := L.take i)
    simp at this; omega
  have w1 : IntKind.i64.wrap ((i : Int) + 1) = (i : Int) + 1 := w64 _ (by omega) (by omega)
  have w2 : IntKind.i64.wrap (((L.take i).count x : Int) + 1) = ((L.take i).count x : Int) + 1 := w64 _ (by omega) (by omega)
  unfold S13
  rw [hc]
  generalize (L.take i).count x = cc at *
  by_cases h : L.getD i 0 = x
  · rw [if_pos h]
    simp -implicitDefEqProofs only [c17b0, fg13, t0, t1, t5, t6, hS.len, hx, hr, hr', h, g1, w1, w2, push_cast, Nat.reduceAdd, Nat.reduceMul, Nat.reduceSub, Nat.reduceLT, Nat.reduceLeDiff, Nat.reduceEqDiff, Nat.reducePow, Int.reduceToNat, Int.reduceLT, Int.reduceLE, Int.reduceNeg, Int.reduceEq, Int.reducePow, reduceIte, reduceCtorEq, Int.reduceMul, Int.reduceAdd, Int.reduceSub, Int.reduceMod, Int.reduceDiv, Int.reduceTDiv, Int.reduceTMod, iter_s]
    exact ⟨_, rfl, _, rfl, rfl, rfl, rfl, rfl, rfl⟩
  · rw [if_neg h]
    simp -implicitDefEqProofs only [c17b0, fg13, t0, t1, t5, t6, hS.len, hx, hr, hr', h, g1, w1, w2, push_cast, Nat.reduceAdd, Nat.reduceMul, Nat.reduceSub, Nat.reduceLT, Nat.reduceLeDiff, Nat.reduceEqDiff, Nat.reducePow, Int.reduceToNat, Int.reduceLT, Int.reduceLE, Int.reduceNeg, Int.reduceEq, Int.reducePow, reduceIte, reduceCtorEq, Int.reduceMul, Int.reduceAdd, Int.reduceSub, Int.reduceMod, Int.reduceDiv, Int.reduceTDiv, Int.reduceTMod, iter_s]
    exact ⟨_, rfl, _, rfl, rfl, rfl, rfl, rfl, rfl⟩
theorem last13 (K : Nat) (L : List Int) (S : LV) (hS : SlI L S) (x : Int) (s : St) (hs : S13 L S x L.length s) :
    ∃ s', evCode (evF cm K) K 0 c17b0 (cleanN fg13 s) = some (.exit 0, s') ∧ S13 L S x L.length s' := by
  obtain ⟨T, rfl, ht, t0, t1, t5, t6⟩ := hs
  rw [tl22 ht]
  have g1 : ¬ (L.length : Int) < L.length := by omega
  simp -implicitDefEqProofs only [c17b0, fg13, t0, t1, t5, t6, hS.len, g1, push_cast, Nat.reduceAdd, Nat.reduceMul, Nat.reduceSub, Nat.reduceLT, Nat.reduceLeDiff, Nat.reduceEqDiff, Nat.reducePow, Int.reduceToNat, Int.reduceLT, Int.reduceLE, Int.reduceNeg, Int.reduceEq, Int.reducePow, reduceIte, reduceCtorEq, Int.reduceMul, Int.reduceAdd, Int.reduceSub, Int.reduceMod, Int.reduceDiv, Int.reduceTDiv, Int.reduceTMod, iter_s]
  exact ⟨_, rfl, _, rfl, rfl, rfl, rfl, rfl, rfl⟩
theorem count_ok (K : Nat) (hK : 20000 ≤ K) (L : List Int) (S : LV) (hS : SlI L S) (hl : L.length ≤ 10000) (x : Int) : evP (evF cm K) 17 [S, .i x] = some (.i (L.count x : Nat)) := by
  obtain ⟨k, rfl⟩ : ∃ k, K = k + 20000 := ⟨K - 20000, by omega⟩
  rw [evP_fun (m := c17) rfl _ _ rfl]
  have key : ∀ s I, iter (evCode (evF cm (k + 19999)) (k + 19999) 0 c17b0) (cleanN fg13) (k + 19999) s = I → S13 L S x 0 s → ∃ s', I = some (.exit 0, s') ∧ S13 L S x L.length s' := by
    intro s I hI hs
    obtain ⟨s', h1, h2⟩ := iter_count (fun i s hi hs => step13 (k + 19999) L S hS hl x i s hi hs) (fun s hs => last13 (k + 19999) L S hS x s hs) L.length 0 s (k + 19999) (by omega) (by omega) hs
    exact ⟨s', hI.symm.trans h1, h2⟩
  simp -implicitDefEqProofs only [c17, push_cast, Nat.reduceAdd, Nat.reduceMul, Nat.reduceSub, Nat.reduceLT, Nat.reduceLeDiff, Nat.reduceEqDiff, Nat.reducePow, Int.reduceToNat, Int.reduceLT, Int.reduceLE, Int.reduceNeg, Int.reduceEq, Int.reducePow, reduceIte, reduceCtorEq, Int.reduceMul, Int.reduceAdd, Int.reduceSub, Int.reduceMod, Int.reduceDiv, Int.reduceTDiv, Int.reduceTMod]
  generalize hI : iter _ _ _ _ = I
  obtain ⟨s', hI2, T, rfl, ht, t0, t1, t5, t6⟩ := key _ _ hI ⟨_, rfl, rfl, rfl, rfl, rfl, rfl⟩
  subst hI2
  rw [List.take_of_length_le (Nat.le_refl _)] at t5
  rw [tl22 ht]
  simp -implicitDefEqProofs only [t5, push_cast, Nat.reduceAdd, Nat.reduceMul, Nat.reduceSub, Nat.reduceLT, Nat.reduceLeDiff, Nat.reduceEqDiff, Nat.reducePow, Int.reduceToNat, Int.reduceLT, Int.reduceLE, Int.reduceNeg, Int.reduceEq, Int.reducePow, reduceIte, reduceCtorEq, Int.reduceMul, Int.reduceAdd, Int.reduceSub, Int.reduceMod, Int.reduceDiv, Int.reduceTDiv, Int.reduceTMod]
theorem count_nodup : ∀ {l : List Int} {x : Int}, l.Nodup → x ∈ l → l.count x = 1
  | y :: l, x, hn, hm => by
    rw [List.nodup_cons] at hn
    rw [List.count_cons]
    by_cases e : y = x
    · subst e
      rw [List.count_eq_zero_of_not_mem hn.1]; simp
    · rw [count_nodup hn.2 (by rcases List.mem_cons.1 hm with h | h; exact absurd h.symm e; exact h)]
      simp [e]
theorem outG_len (r n : Nat) : lenE (outG 1 r n) = some (.i n) := by cases n <;> rfl
theorem outG_ix (r : Nat) {n i : Nat} (h : i < n) : ixsE 1 (outG 1 r n) (.i i) = some (.p r (n - 1) i) := by
  cases n with
  | zero => omega
  | succ n =>
    show ixsE 1 (.sl r n 0 (n + 1) 1 (n + 1)) (.i i) = _
    rw [ixsE_sl]
    rw [if_pos ⟨rfl, by omega, by omega⟩]
    simp
theorem count_call (K : Nat) (hK : 20000 ≤ K) (h : List Row) (r : Nat) (L : List Int) (hr : L ≠ [] → rowOf h r (L.length - 1) = some (L.map LV.i)) (hl : L.length ≤ 10000) (x : Int) :
    callE (evF cm K) false 0 h (.f 17 []) [outG 1 r L.length, .i x] = some (.i (L.count x : Nat), h) := by
  cases L with
  | nil =>
    have e := count_ok K hK [] .nils slI_nil (by simp) x
    show callE (evF cm K) false 0 h (.f 17 []) [.nils, .i x] = _
    rw [call_P (by rfl)]
    show orE (evP (evF cm K) 17 [.nils, .i x]) _ _ _ _ _ _ = _
    rw [e]; rfl
  | cons y L =>
    have hr := hr (by simp)
    have e := count_ok K hK (y :: L) (.im ((y :: L).map LV.i) (y :: L).length false) (slI_im _ _) hl x
    have hf : frzL h ([outG 1 r (y :: L).length, .i x] ++ []) = [.im ((y :: L).map LV.i) (y :: L).length false, .i x] := by
      simp only [List.length_cons, Nat.add_sub_cancel] at hr
      simp only [List.append_nil, List.length_cons, outG, frzL, frz, hr]
      simp
      exact List.take_of_length_le (by simp)
    have hcl := closedL_ints (y :: L)
    rw [call_B (by rfl) (by rw [hf]; simp only [closedL, closed, hcl, Bool.and_true])]
    rw [hf, e]; rfl
theorem tl133 {T : List LV} (h : T.length = 133) : T = [getT T 0, getT T 1, getT T 2, getT T 3, getT T 4, getT T 5, getT T 6, getT T 7, getT T 8, getT T 9, getT T 10, getT T 11, getT T 12, getT T 13, getT T 14, getT T 15, getT T 16, getT T 17, getT T 18, getT T 19, getT T 20, getT T 21, getT T 22, getT T 23, getT T 24, getT T 25, getT T 26, getT T 27, getT T 28, getT T 29, getT T 30, getT T 31, getT T 32, getT T 33, getT T 34, getT T 35, getT T 36, getT T 37, getT T 38, getT T 39, getT T 40, getT T 41, getT T 42, getT T 43, getT T 44, getT T 45, getT T 46, getT T 47, getT T 48, getT T 49, getT T 50, getT T 51, getT T 52, getT T 53, getT T 54, getT T 55, getT T 56, getT T 57, getT T 58, getT T 59, getT T 60, getT T 61, getT T 62, getT T 63, getT T 64, getT T 65, getT T 66, getT T 67, getT T 68, getT T 69, getT T 70, getT T 71, getT T 72, getT T 73, getT T 74, getT T 75, getT T 76, getT T 77, getT T 78, getT T 79, getT T 80, getT T 81, getT T 82, getT T 83, getT T 84, getT T 85, getT T 86, getT T 87, getT T 88, getT T 89, getT T 90, getT T 91, getT T 92, getT T 93, getT T 94, getT T 95, getT T 96, getT T 97, getT T 98, getT T 99, getT T 100, getT T 101, getT T 102, getT T 103, getT T 104, getT T 105, getT T 106, getT T 107, getT T 108, getT T 109, getT T 110, getT T 111, getT T 112, getT T 113, getT T 114, getT T 115, getT T 116, getT T 117, getT T 118, getT T 119, getT T 120, getT T 121, getT T 122, getT T 123, getT T 124, getT T 125, getT T 126, getT T 127, getT T 128, getT T 129, getT T 130, getT T 131, getT T 132] := tlT h
section
variable {S1 S2 : LV} {th : Int} {c n g0 : Nat} {h : List Row} {row : Tg → Nat} {gr : GR → Nat} {G : GM}
theorem DoneSt.rpu (D : DoneSt S1 S2 th c n g0 h row gr G) (hne : G.pu ≠ []) : rowOf h (gr .pu) (G.pu.length - 1) = some (G.pu.map LV.i) := rowOf_at (D.A.hat.at' .pu hne)
theorem DoneSt.rst (D : DoneSt S1 S2 th c n g0 h row gr G) (hne : G.st ≠ []) : rowOf h (gr .st) (G.st.length - 1) = some (G.st.map LV.i) := rowOf_at (D.A.hat.at' .st hne)
theorem DoneSt.rgo (D : DoneSt S1 S2 th c n g0 h row gr G) (hne : G.go ≠ []) : rowOf h (gr .go) (G.go.length - 1) = some (G.go.map LV.i) := rowOf_at (D.A.hat.at' .go hne)
def fgC1 : List Nat := [93, 92, 2, 106, 105, 104, 103, 102, 101, 100, 99, 98, 97, 96, 95, 94, 91, 90, 89, 88, 87, 86, 85]
def SC (j : Nat) (h : List Row) (g0 : Nat) (i : Nat) (s : St) : Prop := ∃ T, s = (T, h) ∧ T.length = 133 ∧ getT T 5 = .p g0 0 0 ∧ getT T j = .i i
theorem once_round (K : Nat) (hK : 20000 ≤ K) (D : DoneSt S1 S2 th c n g0 h row gr G) (i : Nat) (s : St) (hi : i < G.pu.length) (hs : SC 6 h g0 i s) :
    ∃ s', evCode (evF cm K) K 0 c4b1 (cleanN fgC1 s) = some (.nrm, s') ∧ SC 6 h g0 (i + 1) s' := by
  obtain ⟨T, rfl, hT, t5, t6⟩ := hs
  rw [tl133 hT]
  have q1 := D.A.rgm
  unfold gmC at q1
  rw [D.gg] at q1
  have hpl := D.pu
  have hpe := D.perm.length_eq
  have g1 : (i : Int) < (G.pu.length : Int) := by omega
  have w1 : IntKind.i64.wrap ((i : Int) + 1) = (i : Int) + 1 := w64 _ (by omega) (by omega)
  have lp := outG_len (gr .pu) G.pu.length
  have ix := outG_ix (gr .pu) hi
  have q2 := D.rpu (by rintro e; rw [e] at hi; simp at hi)
  have hr : (G.pu.map LV.i)[i]? = some (.i (G.pu.getD i 0)) := by simp [hi]
  have cnt : G.go.count (G.pu.getD i 0) = 1 := by
    rw [D.perm.count_eq, List.getD_eq_getElem?_getD, List.getElem?_eq_getElem hi]
    exact count_nodup D.nd (List.getElem_mem hi)
  have e17 := count_call K hK h (gr .go) G.go D.rgo (by omega) (G.pu.getD i 0)
  rw [cnt] at e17
  have c1 : ((1 : Nat) : Int) = 1 := rfl
  rw [c1] at e17
  simp -implicitDefEqProofs only [c4b1, fgC1, t5, t6, q1, lp, ix, q2, hr, e17, g1, w1, push_cast, Nat.reduceAdd, Nat.reduceMul, Nat.reduceSub, Nat.reduceLT, Nat.reduceLeDiff, Nat.reduceEqDiff, Nat.reducePow, Int.reduceToNat, Int.reduceLT, Int.reduceLE, Int.reduceNeg, Int.reduceEq, Int.reducePow, reduceIte, reduceCtorEq, Int.reduceMul, Int.reduceAdd, Int.reduceSub, Int.reduceMod, Int.reduceDiv, Int.reduceTDiv, Int.reduceTMod, iter_s]
  exact ⟨_, rfl, _, rfl, rfl, rfl, rfl⟩
theorem once_last (K : Nat) (D : DoneSt S1 S2 th c n g0 h row gr G) (s : St) (hs : SC 6 h g0 G.pu.length s) :
    ∃ s', evCode (evF cm K) K 0 c4b1 (cleanN fgC1 s) = some (.exit 0, s') ∧ SC 6 h g0 G.pu.length s' := by
  obtain ⟨T, rfl, hT, t5, t6⟩ := hs
  rw [tl133 hT]
  have q1 := D.A.rgm
  unfold gmC at q1
  rw [D.gg] at q1
  have lp := outG_len (gr .pu) G.pu.length
  have g1 : ¬ (G.pu.length : Int) < (G.pu.length : Int) := by omega
  simp -implicitDefEqProofs only [c4b1, fgC1, t5, t6, q1, lp, g1, push_cast, Nat.reduceAdd, Nat.reduceMul, Nat.reduceSub, Nat.reduceLT, Nat.reduceLeDiff, Nat.reduceEqDiff, Nat.reducePow, Int.reduceToNat, Int.reduceLT, Int.reduceLE, Int.reduceNeg, Int.reduceEq, Int.reducePow, reduceIte, reduceCtorEq, Int.reduceMul, Int.reduceAdd, Int.reduceSub, Int.reduceMod, Int.reduceDiv, Int.reduceTDiv, Int.reduceTMod, iter_s]
  exact ⟨_, rfl, _, rfl, rfl, rfl, rfl⟩
def fgC0 : List Nat := [115, 114, 2, 131, 130, 129, 128, 127, 126, 125, 124, 123, 122, 121, 120, 119, 118, 117, 116, 113, 112, 111, 110, 109, 108, 107]
theorem rise_round (K : Nat) (D : DoneSt S1 S2 th c n g0 h row gr G) (i : Nat) (s : St) (hi : i + 1 < G.st.length) (hs : SC 7 h g0 (i + 1) s) :
    ∃ s', evCode (evF cm K) K 0 c4b0 (cleanN fgC0 s) = some (.nrm, s') ∧ SC 7 h g0 (i + 2) s' := by
  obtain ⟨T, rfl, hT, t5, t7⟩ := hs
  rw [tl133 hT]
  have q1 := D.A.rgm
  unfold gmC at q1
  rw [D.gg] at q1
  have hsl := D.st
  have ci : ((i + 1 : Nat) : Int) = (i : Int) + 1 := rfl
  rw [ci] at t7
  have g1 : (i : Int) + 1 < (G.st.length : Int) := by omega
  have w1 : IntKind.i64.wrap ((i : Int) + 1 + 1) = (i : Int) + 1 + 1 := w64 _ (by omega) (by omega)
  have w2 : IntKind.i64.wrap ((i : Int) + 1 - 1) = (i : Int) := by rw [w64 _ (by omega) (by omega)]; omega
  have lp := outG_len (gr .st) G.st.length
  have ix := outG_ix (gr .st) (show i < G.st.length by omega)
  have ix1 := outG_ix (gr .st) hi
  rw [ci] at ix1
  have q2 := D.rst (by rintro e; rw [e] at hi; simp at hi)
  have hr : (G.st.map LV.i)[i]? = some (.i (G.st.getD i 0)) := by simp [show i < G.st.length by omega]
  have hr1 : (G.st.map LV.i)[i + 1]? = some (.i (G.st.getD (i + 1) 0)) := by simp [hi]
  have lt : ¬ G.st.getD (i + 1) 0 ≤ G.st.getD i 0 := by
    rw [List.getD_eq_getElem?_getD, List.getD_eq_getElem?_getD, List.getElem?_eq_getElem hi, List.getElem?_eq_getElem (show i < G.st.length by omega)]
    have := List.pairwise_iff_getElem.1 D.srt i (i + 1) (by omega) hi (by omega)
    simp only [Option.getD_some]
    omega
  generalize G.st.getD (i + 1) 0 = a at *
  generalize G.st.getD i 0 = b at *
  simp -implicitDefEqProofs only [c4b0, fgC0, t5, t7, q1, lp, ix, ix1, q2, hr, hr1, lt, g1, w1, w2, push_cast, Nat.reduceAdd, Nat.reduceMul, Nat.reduceSub, Nat.reduceLT, Nat.reduceLeDiff, Nat.reduceEqDiff, Nat.reducePow, Int.reduceToNat, Int.reduceLT, Int.reduceLE, Int.reduceNeg, Int.reduceEq, Int.reducePow, reduceIte, reduceCtorEq, Int.reduceMul, Int.reduceAdd, Int.reduceSub, Int.reduceMod, Int.reduceDiv, Int.reduceTDiv, Int.reduceTMod, iter_s]
  exact ⟨_, rfl, _, rfl, rfl, rfl, rfl⟩
theorem rise_last (K : Nat) (D : DoneSt S1 S2 th c n g0 h row gr G) (i : Nat) (s : St) (hi : ¬ i + 1 < G.st.length) (hs : SC 7 h g0 (i + 1) s) :
    ∃ s', evCode (evF cm K) K 0 c4b0 (cleanN fgC0 s) = some (.exit 2, s') ∧ ∃ T, s' = (T, h) ∧ T.length = 133 := by
  obtain ⟨T, rfl, hT, t5, t7⟩ := hs
  rw [tl133 hT]
  have q1 := D.A.rgm
  unfold gmC at q1
  rw [D.gg] at q1
  have ci : ((i + 1 : Nat) : Int) = (i : Int) + 1 := rfl
  rw [ci] at t7
  have lp := outG_len (gr .st) G.st.length
  have g1 : ¬ (i : Int) + 1 < (G.st.length : Int) := by omega
  simp -implicitDefEqProofs only [c4b0, fgC0, t5, t7, q1, lp, g1, push_cast, Nat.reduceAdd, Nat.reduceMul, Nat.reduceSub, Nat.reduceLT, Nat.reduceLeDiff, Nat.reduceEqDiff, Nat.reducePow, Int.reduceToNat, Int.reduceLT, Int.reduceLE, Int.reduceNeg, Int.reduceEq, Int.reducePow, reduceIte, reduceCtorEq, Int.reduceMul, Int.reduceAdd, Int.reduceSub, Int.reduceMod, Int.reduceDiv, Int.reduceTDiv, Int.reduceTMod, iter_s]
  exact ⟨_, rfl, _, rfl, rfl⟩
end
end Go.Proofs.Ytjoldlaoncdcgaa
