/- Run and Turns, as the evaluator answers. -/
import Derived.Test.YtbmfmcimcdajcaaI34
set_option linter.unusedSimpArgs false
set_option linter.unusedVariables false
set_option maxRecDepth 100000
set_option maxHeartbeats 16000000
namespace Go.Proofs.Ytbmfmcimcdajcaa
open Go
def vl (L : List Int) (i : Nat) : List Int := ((List.range i).filter (lvb L)).map fun t : Nat => (t : Int)
theorem vl_succ (L : List Int) (i : Nat) : vl L (i + 1) = if 0 < L.getD i 0 then vl L i ++ [(i : Int)] else vl L i := by
  unfold vl
  rw [List.range_succ, List.filter_append, List.map_append]
  by_cases h : 0 < L.getD i 0
  · rw [if_pos h, List.filter_cons_of_pos (by simp only [lvb, h, decide_true])]; rfl
  · rw [if_neg h, List.filter_cons_of_neg (by simp only [lvb, h, decide_false]; simp)]; simp
theorem vl_all (L : List Int) : vl L L.length = li L := rfl
theorem vl_len (L : List Int) (i : Nat) : (vl L i).length ≤ i := by
  have := cnt_le L i
  unfold cnt at this
  simpa [vl] using this
def fg17a : List Nat := [35, 34, 33, 32, 31, 30, 29, 28, 27, 26, 25, 24, 23, 22, 21, 20, 19]
def S17a (g : List Row) (L : List Int) (lv PK : LV) (most : Int) (i : Nat) (s : St) : Prop := ∃ T, s = (T, g ++ (⟨0, [outS (g.length + 1) (vl L i), .i (-1), PK]⟩ :: tailS (vl L i))) ∧
  T.length = 93 ∧ getT T 0 = lv ∧ getT T 2 = .i most ∧ getT T 8 = .p g.length 0 0 ∧ getT T 16 = lv ∧ getT T 17 = .i L.length ∧ getT T 18 = .i i
theorem step17a (K : Nat) (g : List Row) (a b0 cap : Nat) (X : List LV) (L : List Int) (PK : LV) (most : Int) (hn : L.length ≤ 12) (hT : Th g X L) (hlive : ∀ (i r : Nat), X[i]? = some (LV.ifc 34 (.p r 0 0)) → 0 < L.getD i 0) (hX : rowOf g a b0 = some X)
    (i : Nat) (s : St) (hi : i < L.length) (hs : S17a g L (.sl a b0 0 X.length 1 cap) PK most i s) :
    ∃ s', evCode (evF cm K) K 0 c17b1 (cleanN fg17a s) = some (.nrm, s') ∧ S17a g L (.sl a b0 0 X.length 1 cap) PK most (i + 1) s' := by
  obtain ⟨T, rfl, ht, t0, t2, t8, t16, t17, t18⟩ := hs
  rw [tl93 ht]
  have haN : a < g.length := rowOf_lt hX
  have g1 : (i : Int) < (L.length : Int) := by omega
  have g2 : (0 : Int) ≤ (i : Int) := by omega
  have hXl := hT.len
  have Ra : ∀ (t : List Row), rowOf (g ++ t) a b0 = some X := fun t => by rw [rowOf_left haN]; exact hX
  have R0 : ∀ (t : List Row), rowOf (g ++ t) g.length 0 = rowOf t 0 0 := fun t => @rowOf_right g t 0 0
  have ST : ∀ (t : List Row) (x : Row), (g ++ t).set g.length x = g ++ t.set 0 x := fun t x => @set_right g t 0 x
  have w1 : IntKind.i64.wrap ((i : Int) + 1) = (i : Int) + 1 := w64 _ (by omega) (by omega)
  have hvs := vl_succ L i
  have hvl := vl_len L i
  rcases hT.each i hi with ⟨hx, hlt⟩ | ⟨r, hx, hr⟩
  · rw [if_neg (by omega)] at hvs
    simp -implicitDefEqProofs only [c17b1, fg17a, t0, t2, t8, t16, t17, t18, Ra, R0, ST, hXl, hx, g1, g2, w1, push_cast, Nat.reduceAdd, Nat.reduceMul, Nat.reduceSub, Nat.reduceLT, Nat.reduceLeDiff, Nat.reduceEqDiff, Nat.reducePow, Int.reduceToNat, Int.reduceLT, Int.reduceLE, Int.reduceNeg, Int.reduceEq, Int.reducePow, reduceIte, reduceCtorEq, Int.reduceMul, Int.reduceAdd, Int.reduceSub, Int.reduceMod, Int.reduceDiv, Int.reduceTDiv, Int.reduceTMod, iter_s]
    unfold S17a
    rw [hvs]
    exact ⟨_, rfl, _, rfl, rfl, rfl, rfl, rfl, rfl, rfl, rfl⟩
  · rw [if_pos (hlive i r hx)] at hvs
    have hap : ∀ r1 : Row, appE 0 (g ++ (r1 :: tailS (vl L i))) 1 8 [.i i] 1 (outS (g.length + 1) (vl L i)) = some (outS (g.length + 1) (vl L i ++ [(i : Int)]), g ++ (r1 :: tailS (vl L i ++ [(i : Int)]))) :=
      fun r1 => app_out (g := g) (t0 := [r1]) rfl (i : Int) (vl L i) (by omega)
    unfold S17a
    rw [hvs]
    generalize vl L i = v at *
    cases v with
    | nil =>
      simp only [outS, tailS, List.nil_append, List.length_nil] at hap ⊢
      simp -implicitDefEqProofs only [c17b1, fg17a, t0, t2, t8, t16, t17, t18, Ra, R0, ST, hXl, hx, hap, g1, g2, w1, push_cast, Nat.reduceAdd, Nat.reduceMul, Nat.reduceSub, Nat.reduceLT, Nat.reduceLeDiff, Nat.reduceEqDiff, Nat.reducePow, Int.reduceToNat, Int.reduceLT, Int.reduceLE, Int.reduceNeg, Int.reduceEq, Int.reducePow, reduceIte, reduceCtorEq, Int.reduceMul, Int.reduceAdd, Int.reduceSub, Int.reduceMod, Int.reduceDiv, Int.reduceTDiv, Int.reduceTMod, iter_s]
      exact ⟨_, rfl, _, rfl, rfl, rfl, rfl, rfl, rfl, rfl, rfl⟩
    | cons y v =>
      simp only [outS, tailS, List.cons_append, List.map_cons] at hap ⊢
      simp -implicitDefEqProofs only [c17b1, fg17a, t0, t2, t8, t16, t17, t18, Ra, R0, ST, hXl, hx, hap, g1, g2, w1, push_cast, Nat.reduceAdd, Nat.reduceMul, Nat.reduceSub, Nat.reduceLT, Nat.reduceLeDiff, Nat.reduceEqDiff, Nat.reducePow, Int.reduceToNat, Int.reduceLT, Int.reduceLE, Int.reduceNeg, Int.reduceEq, Int.reducePow, reduceIte, reduceCtorEq, Int.reduceMul, Int.reduceAdd, Int.reduceSub, Int.reduceMod, Int.reduceDiv, Int.reduceTDiv, Int.reduceTMod, iter_s]
      exact ⟨_, rfl, _, rfl, rfl, rfl, rfl, rfl, rfl, rfl, rfl⟩
theorem last17a (K : Nat) (g : List Row) (L : List Int) (lv PK : LV) (most : Int) (s : St) (hs : S17a g L lv PK most L.length s) :
    ∃ s', evCode (evF cm K) K 0 c17b1 (cleanN fg17a s) = some (.exit 0, s') ∧ S17a g L lv PK most L.length s' := by
  obtain ⟨T, rfl, ht, t0, t2, t8, t16, t17, t18⟩ := hs
  rw [tl93 ht]
  have g1 : ¬ (L.length : Int) < (L.length : Int) := by omega
  simp -implicitDefEqProofs only [c17b1, fg17a, t0, t2, t8, t16, t17, t18, g1, push_cast, Nat.reduceAdd, Nat.reduceMul, Nat.reduceSub, Nat.reduceLT, Nat.reduceLeDiff, Nat.reduceEqDiff, Nat.reducePow, Int.reduceToNat, Int.reduceLT, Int.reduceLE, Int.reduceNeg, Int.reduceEq, Int.reducePow, reduceIte, reduceCtorEq, Int.reduceMul, Int.reduceAdd, Int.reduceSub, Int.reduceMod, Int.reduceDiv, Int.reduceTDiv, Int.reduceTMod, iter_s]
  exact ⟨_, rfl, _, rfl, rfl, rfl, rfl, rfl, rfl, rfl, rfl⟩
theorem e17 (k : Nat) (g : List Row) (a b0 cap : Nat) (X : List LV) (L P : List Int) (lv PK : LV) (most : Int) (hn : L.length ≤ 12) (hT : Th g X L) (hlive : ∀ (i r : Nat), X[i]? = some (LV.ifc 34 (.p r 0 0)) → 0 < L.getD i 0)
    (hlv : (L = [] ∧ lv = .nils) ∨ (lv = .sl a b0 0 X.length 1 cap ∧ rowOf g a b0 = some X)) (sep : ∀ (i r : Nat), X[i]? = some (LV.ifc 34 (.p r 0 0)) → r ≠ a)
    (hP : ∀ p ∈ P, -9223372036854775808 ≤ p ∧ p ≤ 9223372036854775807) (hPK : pkV P PK) (hmu : mu L ≤ 480) (hLb : ∀ i : Nat, L.getD i 0 ≤ 9223372036854775807) :
    ∃ h' ov, evF cm (k + 600) 17 [lv, PK, .i most] g 0 = some (.tup [ov, .b (decide (liv (res L P most).L = []))], h') ∧ frz h' ov = slv (res L P most).out := by
  rw [evH_fun (m := c17) rfl _ _ _ _ rfl]
  have hlen : lenE lv = some (.i (L.length : Nat)) := by
    rcases hlv with ⟨rfl, rfl⟩ | ⟨rfl, _⟩
    · rfl
    · rw [← hT.len]; rfl
  have key1 : ∀ s I, iter (evCode (evF cm (k + 599)) (k + 599) 0 c17b1) (cleanN fg17a) (k + 599) s = I → S17a g L lv PK most 0 s → ∃ s', I = some (.exit 0, s') ∧ S17a g L lv PK most L.length s' := by
    intro s I hI hs
    rcases hlv with ⟨rfl, rfl⟩ | ⟨rfl, hX⟩
    · obtain ⟨s', h1, h2⟩ := iter_count (S := fun i s => S17a g [] .nils PK most i s) (N := 0) (fun i s hi => by omega) (fun s hs => last17a (k + 599) g [] _ PK most s hs) 0 0 s (k + 599) rfl (by omega) hs
      exact ⟨s', hI.symm.trans h1, h2⟩
    · obtain ⟨s', h1, h2⟩ := iter_count (fun i s hi hs => step17a (k + 599) g a b0 cap X L PK most hn hT hlive hX i s hi hs) (fun s hs => last17a (k + 599) g L _ PK most s hs) L.length 0 s (k + 599) (by omega) (by omega) hs
      exact ⟨s', hI.symm.trans h1, h2⟩
  have pat : atomB PK = true := by rcases hPK with ⟨_, rfl⟩ | rfl <;> rfl
  have pcl : PK.cells = [PK] := by rcases hPK with ⟨_, rfl⟩ | rfl <;> rfl
  simp only [atomB, Value.oneCell'] at pat
  simp only [LV.cells] at pcl
  simp -implicitDefEqProofs only [c17, hlen, pat, pcl, push_cast, Nat.reduceAdd, Nat.reduceMul, Nat.reduceSub, Nat.reduceLT, Nat.reduceLeDiff, Nat.reduceEqDiff, Nat.reducePow, Int.reduceToNat, Int.reduceLT, Int.reduceLE, Int.reduceNeg, Int.reduceEq, Int.reducePow, reduceIte, reduceCtorEq, Int.reduceMul, Int.reduceAdd, Int.reduceSub, Int.reduceMod, Int.reduceDiv, Int.reduceTDiv, Int.reduceTMod]
  generalize hI : iter _ _ _ _ = I
  obtain ⟨s', hI2, hs'⟩ := key1 _ _ hI ⟨_, rfl, rfl, rfl, rfl, rfl, rfl, rfl, rfl⟩
  subst hI2
  clear hI
  obtain ⟨T, rfl, ht, t0, t2, t8, t16, t17, t18⟩ := hs'
  rw [vl_all, tl93 ht]
  have R0 : ∀ (t : List Row), rowOf (g ++ t) g.length 0 = rowOf t 0 0 := fun t => @rowOf_right g t 0 0
  by_cases hv : liv L = []
  · have hli : li L = [] := by unfold li; rw [hv]; rfl
    have hres : res L P most = m0 L P := by unfold res; rw [mu_nil.1 hv]; rfl
    rw [hli, hres]
    have g1 : ¬ (0 : Int) < 0 := by omega
    have hd : decide (liv (m0 L P).L = []) = true := decide_eq_true hv
    rw [hd]
    simp -implicitDefEqProofs only [c17b0, outS, tailS, t0, t2, t8, t16, t17, t18, R0, g1, push_cast, Nat.reduceAdd, Nat.reduceMul, Nat.reduceSub, Nat.reduceLT, Nat.reduceLeDiff, Nat.reduceEqDiff, Nat.reducePow, Int.reduceToNat, Int.reduceLT, Int.reduceLE, Int.reduceNeg, Int.reduceEq, Int.reducePow, reduceIte, reduceCtorEq, Int.reduceMul, Int.reduceAdd, Int.reduceSub, Int.reduceMod, Int.reduceDiv, Int.reduceTDiv, Int.reduceTMod, iter_s]
    exact ⟨_, _, rfl, rfl⟩
  · have hl0 := List.length_pos_iff.2 hv
    have hln := li_length L
    obtain ⟨x, l, hli⟩ : ∃ x l, li L = x :: l := by
      cases h : li L with
      | nil => rw [h] at hln; simp at hln; omega
      | cons x l => exact ⟨x, l, rfl⟩
    have hl1 : (liv L).length = l.length + 1 := by rw [← hln, hli]; rfl
    have hLne : L ≠ [] := by rintro rfl; exact hv rfl
    obtain ⟨rfl, hX⟩ : lv = .sl a b0 0 X.length 1 cap ∧ rowOf g a b0 = some X := by
      rcases hlv with ⟨h, _⟩ | h
      · exact absurd h hLne
      · exact h
    have key2 : ∀ s I, iter (evCode (evF cm (k + 599)) (k + 599) 0 c17b0) (cleanN fg17) (k + 599) s = I → S17 g.length a b0 l.length (l.length + 1) cap X most (m0 L P) s → ∃ s', I = some (.exit 2, s') ∧ S17 g.length a b0 l.length (l.length + 1) cap X most (res L P most) s' := by
      intro s I hI hs
      obtain ⟨s', h1, h2⟩ := iter_mch (S := S17 g.length a b0 l.length (l.length + 1) cap X most) (R := S17 g.length a b0 l.length (l.length + 1) cap X most) (inv := Inv17 L.length (mu L)) (most := most) (e := 2) (fun m h hd => inv_next h hd)
        (fun m s hi hd hs => step17 (k + 599) (by omega) g.length a b0 l.length (l.length + 1) cap L.length (mu L) hn hmu X sep most m s hi hd hs)
        (fun m s hi hd hs => last17 (k + 599) g.length a b0 l.length (l.length + 1) cap X most m s hd hs) (mu L) (m0 L P) s (k + 599) rfl (by omega)
        ⟨rfl, hLb, hP, ⟨by simp [m0], by simp only [m0]; omega⟩, by simp [m0]⟩ hs
      exact ⟨s', hI.symm.trans h1, h2⟩
    simp -implicitDefEqProofs only [t0, t2, t8, t16, t17, t18, R0, push_cast, Nat.reduceAdd, Nat.reduceMul, Nat.reduceSub, Nat.reduceLT, Nat.reduceLeDiff, Nat.reduceEqDiff, Nat.reducePow, Int.reduceToNat, Int.reduceLT, Int.reduceLE, Int.reduceNeg, Int.reduceEq, Int.reducePow, reduceIte, reduceCtorEq, Int.reduceMul, Int.reduceAdd, Int.reduceSub, Int.reduceMod, Int.reduceDiv, Int.reduceTDiv, Int.reduceTMod]
    generalize hI : iter _ _ _ _ = I
    obtain ⟨s', hI2, T', g', PK', Z', rfl, hg', hT', hX', hPK', hc', ht', t0', t2', t8', t11'⟩ := key2 _ _ hI ⟨_, g, PK, [], Prod.ext rfl (by simp only [hli, outS, tailS, m0, hl1, List.append_nil]), rfl, hT, hX, hPK, by rw [show (m0 L P).L = L from rfl, hl1]; exact Nat.le_refl _, rfl, rfl, rfl, rfl, rfl⟩
    subst hI2
    clear hI
    have R0' : ∀ (t : List Row), rowOf (g' ++ t) g.length 0 = rowOf t 0 0 := fun t => by have := @rowOf_right g' t 0 0; rw [hg'] at this; exact this
    rw [tl93 ht']
    have hd : decide (((liv (res L P most).L).length : Int) = 0) = decide (liv (res L P most).L = []) := by
      rw [decide_eq_decide, ← List.length_eq_zero_iff]; omega
    simp -implicitDefEqProofs only [t0', t2', t8', t11', R0', hd, push_cast, Nat.reduceAdd, Nat.reduceMul, Nat.reduceSub, Nat.reduceLT, Nat.reduceLeDiff, Nat.reduceEqDiff, Nat.reducePow, Int.reduceToNat, Int.reduceLT, Int.reduceLE, Int.reduceNeg, Int.reduceEq, Int.reducePow, reduceIte, reduceCtorEq, Int.reduceMul, Int.reduceAdd, Int.reduceSub, Int.reduceMod, Int.reduceDiv, Int.reduceTDiv, Int.reduceTMod]
    refine ⟨_, _, rfl, ?_⟩
    have hrow : ∀ v, rowOf (g' ++ (⟨0, [.sl (g.length + 1) l.length 0 (liv (res L P most).L).length 1 (l.length + 1), .i (res L P most).last, PK']⟩ :: ⟨l.length, (li (res L P most).L).map LV.i ++ Z'⟩ :: tailS (res L P most).out)) (g.length + 2) v = rowOf (tailS (res L P most).out) 0 v := fun v => by
      have := @rowOf_right g' (⟨0, [.sl (g.length + 1) l.length 0 (liv (res L P most).L).length 1 (l.length + 1), .i (res L P most).last, PK']⟩ :: ⟨l.length, (li (res L P most).L).map LV.i ++ Z'⟩ :: tailS (res L P most).out) 2 v
      rw [hg'] at this
      exact this
    cases ho : (res L P most).out with
    | nil => rfl
    | cons y o =>
      rw [ho] at hrow
      simp only [tailS] at hrow ⊢
      simp only [outS, frz, hrow, slv]
      simp [rowOf]
      exact List.take_of_length_le (by simp)
/-! ### where none is live -/
def S17z (g : List Row) (X : List LV) (PK : LV) (most : Int) (i : Nat) (s : St) : Prop := ∃ T, s = (T, g ++ [⟨0, [.nils, .i (-1), PK]⟩]) ∧
  T.length = 93 ∧ getT T 0 = .im X X.length false ∧ getT T 2 = .i most ∧ getT T 8 = .p g.length 0 0 ∧ getT T 16 = .im X X.length false ∧ getT T 17 = .i X.length ∧ getT T 18 = .i i
theorem step17z (K : Nat) (g : List Row) (X : List LV) (PK : LV) (most : Int) (hn : X.length ≤ 12) (hX : ∀ i, i < X.length → X[i]? = some (.v .nilIface)) (i : Nat) (s : St) (hi : i < X.length) (hs : S17z g X PK most i s) :
    ∃ s', evCode (evF cm K) K 0 c17b1 (cleanN fg17a s) = some (.nrm, s') ∧ S17z g X PK most (i + 1) s' := by
  obtain ⟨T, rfl, ht, t0, t2, t8, t16, t17, t18⟩ := hs
  rw [tl93 ht]
  have g1 : (i : Int) < (X.length : Int) := by omega
  have g2 : (0 : Int) ≤ (i : Int) := by omega
  have w1 : IntKind.i64.wrap ((i : Int) + 1) = (i : Int) + 1 := w64 _ (by omega) (by omega)
  have hx : (List.drop i X)[0]? = some (.v .nilIface) := by rw [List.getElem?_drop]; exact hX i hi
  simp -implicitDefEqProofs only [c17b1, fg17a, t0, t2, t8, t16, t17, t18, hx, g1, g2, w1, push_cast, Nat.reduceAdd, Nat.reduceMul, Nat.reduceSub, Nat.reduceLT, Nat.reduceLeDiff, Nat.reduceEqDiff, Nat.reducePow, Int.reduceToNat, Int.reduceLT, Int.reduceLE, Int.reduceNeg, Int.reduceEq, Int.reducePow, reduceIte, reduceCtorEq, Int.reduceMul, Int.reduceAdd, Int.reduceSub, Int.reduceMod, Int.reduceDiv, Int.reduceTDiv, Int.reduceTMod, iter_s]
  exact ⟨_, rfl, _, rfl, rfl, rfl, rfl, rfl, rfl, rfl, rfl⟩
theorem last17z (K : Nat) (g : List Row) (X : List LV) (PK : LV) (most : Int) (s : St) (hs : S17z g X PK most X.length s) :
    ∃ s', evCode (evF cm K) K 0 c17b1 (cleanN fg17a s) = some (.exit 0, s') ∧ S17z g X PK most X.length s' := by
  obtain ⟨T, rfl, ht, t0, t2, t8, t16, t17, t18⟩ := hs
  rw [tl93 ht]
  have g1 : ¬ (X.length : Int) < (X.length : Int) := by omega
  simp -implicitDefEqProofs only [c17b1, fg17a, t0, t2, t8, t16, t17, t18, g1, push_cast, Nat.reduceAdd, Nat.reduceMul, Nat.reduceSub, Nat.reduceLT, Nat.reduceLeDiff, Nat.reduceEqDiff, Nat.reducePow, Int.reduceToNat, Int.reduceLT, Int.reduceLE, Int.reduceNeg, Int.reduceEq, Int.reducePow, reduceIte, reduceCtorEq, Int.reduceMul, Int.reduceAdd, Int.reduceSub, Int.reduceMod, Int.reduceDiv, Int.reduceTDiv, Int.reduceTMod, iter_s]
  exact ⟨_, rfl, _, rfl, rfl, rfl, rfl, rfl, rfl, rfl, rfl⟩
theorem e17z (k : Nat) (g : List Row) (X : List LV) (P : List Int) (PK : LV) (most : Int) (hn : X.length ≤ 12) (hX : ∀ i, i < X.length → X[i]? = some (.v .nilIface)) (hPK : pkV P PK) :
    ∃ h', evF cm (k + 600) 17 [.im X X.length false, PK, .i most] g 0 = some (.tup [.nils, .b true], h') := by
  rw [evH_fun (m := c17) rfl _ _ _ _ rfl]
  have key1 : ∀ s I, iter (evCode (evF cm (k + 599)) (k + 599) 0 c17b1) (cleanN fg17a) (k + 599) s = I → S17z g X PK most 0 s → ∃ s', I = some (.exit 0, s') ∧ S17z g X PK most X.length s' := by
    intro s I hI hs
    obtain ⟨s', h1, h2⟩ := iter_count (fun i s hi hs => step17z (k + 599) g X PK most hn hX i s hi hs) (fun s hs => last17z (k + 599) g X PK most s hs) X.length 0 s (k + 599) (by omega) (by omega) hs
    exact ⟨s', hI.symm.trans h1, h2⟩
  have pat : atomB PK = true := by rcases hPK with ⟨_, rfl⟩ | rfl <;> rfl
  have pcl : PK.cells = [PK] := by rcases hPK with ⟨_, rfl⟩ | rfl <;> rfl
  simp only [atomB, Value.oneCell'] at pat
  simp only [LV.cells] at pcl
  simp -implicitDefEqProofs only [c17, pat, pcl, push_cast, Nat.reduceAdd, Nat.reduceMul, Nat.reduceSub, Nat.reduceLT, Nat.reduceLeDiff, Nat.reduceEqDiff, Nat.reducePow, Int.reduceToNat, Int.reduceLT, Int.reduceLE, Int.reduceNeg, Int.reduceEq, Int.reducePow, reduceIte, reduceCtorEq, Int.reduceMul, Int.reduceAdd, Int.reduceSub, Int.reduceMod, Int.reduceDiv, Int.reduceTDiv, Int.reduceTMod]
  generalize hI : iter _ _ _ _ = I
  obtain ⟨s', hI2, hs'⟩ := key1 _ _ hI ⟨_, rfl, rfl, rfl, rfl, rfl, rfl, rfl, rfl⟩
  subst hI2
  clear hI
  obtain ⟨T, rfl, ht, t0, t2, t8, t16, t17, t18⟩ := hs'
  rw [tl93 ht]
  have R0 : ∀ (t : List Row), rowOf (g ++ t) g.length 0 = rowOf t 0 0 := fun t => @rowOf_right g t 0 0
  have g1 : ¬ (0 : Int) < 0 := by omega
  simp -implicitDefEqProofs only [c17b0, t0, t2, t8, t16, t17, t18, R0, g1, push_cast, Nat.reduceAdd, Nat.reduceMul, Nat.reduceSub, Nat.reduceLT, Nat.reduceLeDiff, Nat.reduceEqDiff, Nat.reducePow, Int.reduceToNat, Int.reduceLT, Int.reduceLE, Int.reduceNeg, Int.reduceEq, Int.reducePow, reduceIte, reduceCtorEq, Int.reduceMul, Int.reduceAdd, Int.reduceSub, Int.reduceMod, Int.reduceDiv, Int.reduceTDiv, Int.reduceTMod, iter_s]
  exact ⟨_, rfl⟩
/-! ### the threads are made -/
def growS (a i : Nat) : LV := match i with
  | 0 => .nils
  | i + 1 => .sl a i 0 (i + 1) 1 (i + 1)
structure Th9 (g : List Row) (X : List LV) (L : List Int) (a i : Nat) : Prop where
  len : X.length = i
  each : ∀ j, j < i → (X[j]? = some (.v .nilIface) ∧ L.getD j 0 < 1) ∨ ∃ r, r ≠ a ∧ X[j]? = some (.ifc 34 (.p r 0 0)) ∧ rowOf g r 0 = some [.i (L.getD j 0)] ∧ 0 < L.getD j 0
  inj : ∀ (i j r : Nat), X[i]? = some (LV.ifc 34 (.p r 0 0)) → X[j]? = some (LV.ifc 34 (.p r 0 0)) → i = j
  row : 0 < i → rowOf g a (i - 1) = some X
theorem th9_0 (g : List Row) (L : List Int) : Th9 g [] L 0 0 := ⟨rfl, fun j h => by omega, fun i j r h => by simp at h, fun h => by omega⟩
theorem app_grow {g : List Row} {X : List LV} {a i : Nat} (x : LV) (hX : X.length = i) (hr : 0 < i → rowOf g a (i - 1) = some X) (hi : i ≤ 100) :
    ∃ a' g', appE 0 g 1 16 [x] 1 (growS a i) = some (growS a' (i + 1), g') ∧ (i = 0 → a' = g.length ∧ g' = g ++ [⟨0, [x]⟩]) ∧ (0 < i → a' = a ∧ g' = g.set a ⟨i, X ++ [x]⟩) := by
  cases i with
  | zero => exact ⟨g.length, g ++ [⟨0, [x]⟩], by simp [appE, growS], fun _ => ⟨rfl, rfl⟩, fun h => by omega⟩
  | succ i =>
    have hr := hr (by omega)
    simp only [Nat.add_sub_cancel] at hr
    refine ⟨a, g.set a ⟨i + 1, X ++ [x]⟩, ?_, fun h => by omega, fun _ => ⟨rfl, rfl⟩⟩
    show appE 0 g 1 16 [x] 1 (.sl a i 0 (i + 1) 1 (i + 1)) = some (.sl a (i + 1) 0 (i + 1 + 1) 1 (i + 1 + 1), _)
    simp only [appE, hr, Nat.not_lt_zero, if_false]
    rw [if_neg (by omega), if_pos ⟨by omega, trivial, trivial, by omega, by omega, by omega⟩]
theorem th9_nil {g : List Row} {X : List LV} {L : List Int} {a i : Nat} (h : Th9 g X L a i) (hi : i ≤ 100) (hl : L.getD i 0 < 1) :
    ∃ a' g', appE 0 g 1 16 [.v .nilIface] 1 (growS a i) = some (growS a' (i + 1), g') ∧ Th9 g' (X ++ [.v .nilIface]) L a' (i + 1) := by
  obtain ⟨a', g', h1, h2, h3⟩ := app_grow (.v .nilIface) h.len h.row hi
  refine ⟨a', g', h1, by simp [h.len], fun j hj => ?_, fun p q r hp hq => ?_, fun _ => ?_⟩
  · by_cases hji : j < i
    · rw [List.getElem?_append_left (by rw [h.len]; exact hji)]
      rcases h.each j hji with h4 | ⟨r, h4, h5, h6, h7⟩
      · exact .inl h4
      · obtain ⟨rfl, rfl⟩ := h3 (by omega)
        exact .inr ⟨r, h4, h5, by rw [rowOf_set_ne (Ne.symm h4)]; exact h6, h7⟩
    · obtain rfl : j = i := by omega
      left
      rw [List.getElem?_append_right (by rw [h.len]; exact Nat.le_refl _), h.len]
      simp; simpa using hl
  · have key : ∀ p : Nat, (X ++ [LV.v .nilIface])[p]? = some (LV.ifc 34 (.p r 0 0)) → X[p]? = some (LV.ifc 34 (.p r 0 0)) := by
      intro p hp
      rw [List.getElem?_append] at hp
      split at hp
      · exact hp
      · rcases hd : p - X.length with _ | d
        · rw [hd] at hp; simp at hp
        · rw [hd] at hp; simp at hp
    exact h.inj p q r (key p hp) (key q hq)
  · rw [Nat.add_sub_cancel]
    by_cases h0 : i = 0
    · obtain ⟨rfl, rfl⟩ := h2 h0
      subst h0
      have hX : X = [] := List.length_eq_zero_iff.1 h.len
      subst hX
      have := @rowOf_right g [⟨0, [.v .nilIface]⟩] 0 0
      exact this
    · obtain ⟨rfl, rfl⟩ := h3 (by omega)
      exact rowOf_set (rowOf_lt (h.row (by omega)))
theorem th9_live {g : List Row} {X : List LV} {L : List Int} {a i : Nat} (h : Th9 g X L a i) (hi : i ≤ 100) (hl : 0 < L.getD i 0) :
    ∃ a' g', appE 0 (g ++ [⟨0, [.i (L.getD i 0)]⟩]) 1 16 [.ifc 34 (.p g.length 0 0)] 1 (growS a i) = some (growS a' (i + 1), g') ∧ Th9 g' (X ++ [.ifc 34 (.p g.length 0 0)]) L a' (i + 1) := by
  have hrow : ∀ r v cs, rowOf g r v = some cs → rowOf (g ++ [⟨0, [.i (L.getD i 0)]⟩]) r v = some cs := fun r v cs e => by rw [rowOf_left (rowOf_lt e)]; exact e
  have hnew : rowOf (g ++ [⟨0, [.i (L.getD i 0)]⟩]) g.length 0 = some [.i (L.getD i 0)] := @rowOf_right g [⟨0, [.i (L.getD i 0)]⟩] 0 0
  obtain ⟨a', g', h1, h2, h3⟩ := app_grow (g := g ++ [⟨0, [.i (L.getD i 0)]⟩]) (.ifc 34 (.p g.length 0 0)) h.len (fun h0 => hrow _ _ _ (h.row h0)) hi
  have hold : ∀ j r : Nat, j < i → X[j]? = some (LV.ifc 34 (.p r 0 0)) → r < g.length := by
    intro j r hj e
    rcases h.each j hj with ⟨h4, _⟩ | ⟨r', _, h5, h6, _⟩
    · rw [h4] at e; simp at e
    · rw [h5] at e
      simp at e
      subst e
      exact rowOf_lt h6
  refine ⟨a', g', h1, by simp [h.len], fun j hj => ?_, fun p q r hp hq => ?_, fun _ => ?_⟩
  · by_cases hji : j < i
    · rw [List.getElem?_append_left (by rw [h.len]; exact hji)]
      rcases h.each j hji with h4 | ⟨r, h4, h5, h6, h7⟩
      · exact .inl h4
      · obtain ⟨rfl, rfl⟩ := h3 (by omega)
        exact .inr ⟨r, h4, h5, by rw [rowOf_set_ne (Ne.symm h4)]; exact hrow _ _ _ h6, h7⟩
    · obtain rfl : j = i := by omega
      right
      rw [List.getElem?_append_right (by rw [h.len]; exact Nat.le_refl _), h.len, Nat.sub_self]
      by_cases h0 : j = 0
      · obtain ⟨rfl, rfl⟩ := h2 h0
        refine ⟨g.length, by simp, rfl, ?_, hl⟩
        rw [rowOf_left (by simp)]; exact hnew
      · obtain ⟨rfl, rfl⟩ := h3 (by omega)
        have hne : g.length ≠ a' := by have := rowOf_lt (h.row (by omega)); omega
        refine ⟨g.length, hne, rfl, ?_, hl⟩
        rw [rowOf_set_ne (Ne.symm hne)]; exact hnew
  · have key : ∀ p : Nat, (X ++ [LV.ifc 34 (.p g.length 0 0)])[p]? = some (LV.ifc 34 (.p r 0 0)) → (p < i ∧ X[p]? = some (LV.ifc 34 (.p r 0 0))) ∨ (p = i ∧ r = g.length) := by
      intro p hp
      rw [List.getElem?_append] at hp
      split at hp
      · rename_i hlt
        exact .inl ⟨by rw [h.len] at hlt; exact hlt, hp⟩
      · rename_i hge
        rcases hd : p - X.length with _ | d
        · rw [hd] at hp; simp at hp
          rw [h.len] at hd hge
          exact .inr ⟨by omega, hp.symm⟩
        · rw [hd] at hp; simp at hp
    rcases key p hp with ⟨p1, p2⟩ | ⟨p1, p2⟩ <;> rcases key q hq with ⟨q1, q2⟩ | ⟨q1, q2⟩
    · exact h.inj p q r p2 q2
    · have := hold p r p1 p2; omega
    · have := hold q r q1 q2; omega
    · omega
  · rw [Nat.add_sub_cancel]
    by_cases h0 : i = 0
    · obtain ⟨rfl, rfl⟩ := h2 h0
      subst h0
      have hX : X = [] := List.length_eq_zero_iff.1 h.len
      subst hX
      have := @rowOf_right (g ++ [⟨0, [.i (L.getD 0 0)]⟩]) [⟨0, [.ifc 34 (.p g.length 0 0)]⟩] 0 0
      exact this
    · obtain ⟨rfl, rfl⟩ := h3 (by omega)
      exact rowOf_set (by have := rowOf_lt (h.row (by omega)); simp; omega)
end Go.Proofs.Ytbmfmcimcdajcaa
