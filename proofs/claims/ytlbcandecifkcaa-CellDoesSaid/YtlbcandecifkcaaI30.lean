/- The clashes of an access, by all that orders it, as the evaluator answers. -/
import Derived.Test.YtlbcandecifkcaaG30
set_option linter.unusedSimpArgs false
set_option linter.unusedVariables false
set_option maxRecDepth 100000
set_option maxHeartbeats 16000000
namespace Go.Proofs.Ytlbcandecifkcaa
open Go
theorem tl85 {T : List LV} (h : T.length = 85) : T = [getT T 0, getT T 1, getT T 2, getT T 3, getT T 4, getT T 5, getT T 6, getT T 7, getT T 8, getT T 9, getT T 10, getT T 11, getT T 12, getT T 13, getT T 14, getT T 15, getT T 16, getT T 17, getT T 18, getT T 19, getT T 20, getT T 21, getT T 22, getT T 23, getT T 24, getT T 25, getT T 26, getT T 27, getT T 28, getT T 29, getT T 30, getT T 31, getT T 32, getT T 33, getT T 34, getT T 35, getT T 36, getT T 37, getT T 38, getT T 39, getT T 40, getT T 41, getT T 42, getT T 43, getT T 44, getT T 45, getT T 46, getT T 47, getT T 48, getT T 49, getT T 50, getT T 51, getT T 52, getT T 53, getT T 54, getT T 55, getT T 56, getT T 57, getT T 58, getT T 59, getT T 60, getT T 61, getT T 62, getT T 63, getT T 64, getT T 65, getT T 66, getT T 67, getT T 68, getT T 69, getT T 70, getT T 71, getT T 72, getT T 73, getT T 74, getT T 75, getT T 76, getT T 77, getT T 78, getT T 79, getT T 80, getT T 81, getT T 82, getT T 83, getT T 84] := tlT h
/-! ### a list of clashes that grows -/
def G3 (n0 : Nat) (h : List Row) (l : List (Int × Int × Int)) (S : LV) : Prop := (l = [] ∧ S = .nils) ∨ (l ≠ [] ∧ ∃ k, n0 ≤ k ∧ S = .sl k (l.length - 1) 0 l.length 3 l.length ∧ rowOf h k (l.length - 1) = some (clCells l))
theorem G3.c3 {n0 : Nat} {h : List Row} {l : List (Int × Int × Int)} {S : LV} (G : G3 n0 h l S) : C3At h (fun _ => True) l S := by
  rcases G with ⟨h1, h2⟩ | ⟨h1, k, _, h2, h3⟩
  · exact .inl ⟨h1, .inl h2⟩
  · exact .inr ⟨h1, k, _, trivial, h2, h3⟩
theorem g3_app {n0 : Nat} {h : List Row} {l : List (Int × Int × Int)} {S : LV} (G : G3 n0 h l S) (hn : n0 ≤ h.length) (hl : l.length < 1000000000) (x y z : Int) :
    ∃ S' h', appE 0 h 3 24 [.i x, .i y, .i z] 1 S = some (S', h') ∧ G3 n0 h' (l ++ [(x, y, z)]) S' ∧ h.length ≤ h'.length ∧ ∀ k, k < n0 → h'[k]? = h[k]? := by
  have hlen : (l ++ [(x, y, z)]).length = l.length + 1 := by simp
  rcases G with ⟨rfl, rfl⟩ | ⟨h1, k, h2, rfl, h3⟩
  · refine ⟨.sl h.length 0 0 1 3 1, h ++ [⟨0, [.i x, .i y, .i z]⟩], by simp [appE], .inr ⟨by simp, h.length, hn, rfl, rowOf_app_eq⟩, by simp, fun k hk => List.getElem?_append_left (by omega)⟩
  · have h0 : 0 < l.length := List.length_pos_iff.2 h1
    have hc := clCells_len l
    have hlt := rowOf_lt h3
    refine ⟨.sl k (l.length - 1 + 1) 0 (l.length + 1) 3 (l.length + 1), h.set k ⟨l.length - 1 + 1, clCells l ++ [.i x, .i y, .i z]⟩, ?_, .inr ⟨by simp, k, h2, ?_, ?_⟩, by simp, fun j hj => List.getElem?_set_ne (by omega)⟩
    · simp only [appE, h3, Nat.not_lt_zero, if_false]
      rw [if_neg (by omega), if_pos ⟨by omega, trivial, trivial, hc, by omega, by omega⟩]
    · rw [hlen, show l.length - 1 + 1 = l.length + 1 - 1 by omega]
    · rw [hlen, show l.length - 1 + 1 = l.length + 1 - 1 by omega, rowOf_set_eq hlt, clCells_app]; rfl
theorem G3.ext {n0 : Nat} {h h' : List Row} {l : List (Int × Int × Int)} {S : LV} (G : G3 n0 h l S) (x : Ext h h') : G3 n0 h' l S := by
  rcases G with h1 | ⟨h1, k, h2, h3, h4⟩
  · exact .inl h1
  · exact .inr ⟨h1, k, h2, h3, x.row h4⟩
/-! ### one earlier operation -/
def cB (L : List Dn) (d : Dn) (u i : Nat) : Bool := decide ((dn L i).t = u) && decide ((u : Int) ≠ d.t) && decide ((dn L i).a = d.a) && (decide ((dn L i).k = 5) || decide ((dn L i).k = 4) && decide (d.k = 5)) && !d.bf.getD i false
def anyC (L : List Dn) (d : Dn) (u i : Nat) : Bool := (List.range i).any (cB L d u)
theorem anyC_succ (L : List Dn) (d : Dn) (u i : Nat) : anyC L d u (i + 1) = (anyC L d u i || cB L d u i) := by simp [anyC, List.range_succ]
def dnC (d : Dn) (kb m : Nat) : List LV := [.i d.k, .i d.t, .i d.a, .i d.o, .i d.n, .sl kb 0 0 m 1 m, .b d.w, .i d.v, .b d.is]
/-- The frame: rows below n0 are as they were, the two boxes are there. -/
structure Fc (h hh : List Row) (hd od : List LV) : Prop where
  le : h.length + 2 ≤ hh.length
  same : ∀ k, k < h.length → hh[k]? = h[k]?
  r0 : rowOf hh h.length 0 = some hd
  r1 : rowOf hh (h.length + 1) 0 = some od
theorem Fc.x {h hh : List Row} {hd od : List LV} (F : Fc h hh hd od) : Ext h hh := ⟨by have := F.le; omega, F.same⟩
theorem Fc.ext {h hh h2 : List Row} {hd od : List LV} (F : Fc h hh hd od) (x : Ext hh h2) : Fc h h2 hd od :=
  ⟨Nat.le_trans F.le x.le, (F.x.trans x).same, x.row F.r0, x.row F.r1⟩
theorem Fc.low {h hh h2 : List Row} {hd od : List LV} (F : Fc h hh hd od) (hl : hh.length ≤ h2.length) (hs : ∀ k, k < h.length + 2 → h2[k]? = hh[k]?) : Fc h h2 hd od :=
  ⟨Nat.le_trans F.le hl, fun k hk => (hs k (by omega)).trans (F.same k hk), rowOf_at (by rw [hs _ (by omega)]; exact at_rowOf F.r0), rowOf_at (by rw [hs _ (by omega)]; exact at_rowOf F.r1)⟩
def fg33b : List Nat := [22, 21, 71, 70, 69, 68, 67, 66, 65, 64, 63, 62, 61, 60, 59, 58, 57, 56, 55, 54, 53, 52, 51, 50, 49, 48, 47, 46, 45, 44, 43, 42, 41, 40, 39, 38, 37, 36, 35, 34, 33, 32, 31, 30, 29, 28, 27, 26, 25, 24, 23, 20, 19, 18, 17, 16]
def S33 (h : List Row) (hd : List LV) (L : List Dn) (d : Dn) (kb : Nat) (u : Nat) (l : List (Int × Int × Int)) (S : LV) (i : Nat) (s : St) : Prop := ∃ T hh, s = (T, hh) ∧ Fc h hh hd (dnC d kb L.length) ∧ G3 (h.length + 2) hh l S ∧ T.length = 85 ∧ getT T 2 = .p h.length 0 0 ∧ getT T 3 = .p (h.length + 1) 0 0 ∧ getT T 5 = S ∧ getT T 6 = .i u ∧ getT T 7 = .b (anyC L d u i) ∧ getT T 8 = .i i
theorem clash_round (K : Nat) (h : List Row) (th na np nl : Int) (L : List Dn) (cl : List (Int × Int × Int)) (LS CS : LV) {P : Nat → Prop} (H : HAll h P L cl LS CS) (d : Dn) (kb : Nat) (hkb : rowOf h kb 0 = some (bools d.bf)) (hdl : d.bf.length = L.length) (u : Nat) (l : List (Int × Int × Int)) (S : LV) (i : Nat) (s : St) (hi : i < L.length)
    (hs : S33 h [.i th, .i na, .i np, .i nl, LS, CS] L d kb u l S i s) :
    ∃ s', evCode (evF cm K) K 0 c33b0 (cleanN fg33b s) = some (.nrm, s') ∧ S33 h [.i th, .i na, .i np, .i nl, LS, CS] L d kb u l S (i + 1) s' := by
  obtain ⟨T, hh, rfl, F, G, hT, t2, t3, t5, t6, t7, t8⟩ := hs
  rw [tl85 hT]
  have hn := H.n
  obtain ⟨kk, v, b, hls, hr, -, -⟩ := H.at' hi
  subst hls
  have g1 : (i : Int) < (L.length : Int) := by omega
  have g2 : (0 : Int) ≤ (i : Int) := by omega
  have w1 : IntKind.i64.wrap ((i : Int) + 1) = (i : Int) + 1 := w64 _ (by omega) (by omega)
  have r0 := F.r0
  have r1 := F.r1
  have r3 := F.x.row hr
  have r4 := F.x.row hkb
  have rlt0 := rowOf_lt r0
  have rlt1 := rowOf_lt r1
  have rlt4 := rowOf_lt r4
  have hdl2 : i * 9 + 5 ≤ (dCells b L L.length).length := by rw [dCells_len]; omega
  have q5 : List.take 5 (List.drop (i * 9) (dCells b L L.length)) = [.i (dn L i).k, .i (dn L i).t, .i (dn L i).a, .i (dn L i).o, .i (dn L i).n] := by
    obtain ⟨rest, hr⟩ := dCells_drop b L L.length i hi
    rw [hr]; rfl
  have b4 : (bools d.bf)[i]? = some (.b (d.bf.getD i false)) := bools_get (by omega)
  have rb : ∀ cs, rowOf (hh ++ [⟨0, cs⟩]) hh.length 0 = some cs := fun cs => rowOf_app_eq
  have rc : ∀ x, rowOf (hh ++ [x]) (h.length + 1) 0 = rowOf hh (h.length + 1) 0 := fun x => rowOf_app_lt rlt1
  have rd : ∀ x, rowOf (hh ++ [x]) kb 0 = rowOf hh kb 0 := fun x => rowOf_app_lt rlt4
  have hsu := anyC_succ L d u i
  have fin : ∀ (x : Row) T', T'.length = 85 → getT T' 2 = .p h.length 0 0 → getT T' 3 = .p (h.length + 1) 0 0 → getT T' 5 = S → getT T' 6 = .i u → getT T' 8 = .i ((i : Int) + 1) → getT T' 7 = .b (anyC L d u (i + 1)) → S33 h [.i th, .i na, .i np, .i nl, .sl kk v 0 L.length 9 L.length, CS] L d kb u l S (i + 1) (T', hh ++ [x]) :=
    fun x T' e0 e2 e3 e5 e6 e8 e7 => ⟨T', _, rfl, F.ext (Ext.app _ _), G.ext (Ext.app _ _), e0, e2, e3, e5, e6, e7, e8⟩
  unfold dnC at r1
  by_cases c1 : (dn L i).t = (u : Int)
  · by_cases c2 : (u : Int) = d.t
    · have hc : cB L d u i = false := by simp [cB, c2]
      rw [hc, Bool.or_false] at hsu
      simp -implicitDefEqProofs only [c33b0, fg33b, t2, t3, t5, t6, t7, t8, g1, g2, w1, r0, r1, r3, r4, hdl2, q5, b4, rb, rc, rd, app1_0, c1, c2, push_cast, Nat.reduceAdd, Nat.reduceMul, Nat.reduceSub, Nat.reduceLT, Nat.reduceLeDiff, Nat.reduceEqDiff, Nat.reducePow, Int.reduceToNat, Int.reduceLT, Int.reduceLE, Int.reduceNeg, Int.reduceEq, Int.reducePow, reduceIte, reduceCtorEq, Int.reduceMul, Int.reduceAdd, Int.reduceSub, Int.reduceMod, Int.reduceDiv, Int.reduceTDiv, Int.reduceTMod, iter_s]
      exact ⟨_, rfl, fin _ _ rfl rfl rfl rfl (by rw [← c2]; rfl) rfl (by rw [hsu]; rfl)⟩
    · by_cases c3 : (dn L i).a = d.a
      · by_cases c4 : (dn L i).k = 5
        · cases c5 : d.bf.getD i false with
          | true =>
            have hc : cB L d u i = false := by simp only [cB, c5]; simp
            rw [hc, Bool.or_false] at hsu
            simp -implicitDefEqProofs only [c33b0, fg33b, t2, t3, t5, t6, t7, t8, g1, g2, w1, r0, r1, r3, r4, hdl2, q5, b4, rb, rc, rd, app1_0, c1, c2, c3, c4, c5, push_cast, Nat.reduceAdd, Nat.reduceMul, Nat.reduceSub, Nat.reduceLT, Nat.reduceLeDiff, Nat.reduceEqDiff, Nat.reducePow, Int.reduceToNat, Int.reduceLT, Int.reduceLE, Int.reduceNeg, Int.reduceEq, Int.reducePow, reduceIte, reduceCtorEq, Int.reduceMul, Int.reduceAdd, Int.reduceSub, Int.reduceMod, Int.reduceDiv, Int.reduceTDiv, Int.reduceTMod, iter_s]
            exact ⟨_, rfl, fin _ _ rfl rfl rfl rfl rfl rfl (by rw [hsu]; rfl)⟩
          | false =>
            have hc : cB L d u i = true := by simp only [cB, c5, c1, c3, c4]; simp [c2]
            rw [hc, Bool.or_true] at hsu
            simp -implicitDefEqProofs only [c33b0, fg33b, t2, t3, t5, t6, t7, t8, g1, g2, w1, r0, r1, r3, r4, hdl2, q5, b4, rb, rc, rd, app1_0, c1, c2, c3, c4, c5, push_cast, Nat.reduceAdd, Nat.reduceMul, Nat.reduceSub, Nat.reduceLT, Nat.reduceLeDiff, Nat.reduceEqDiff, Nat.reducePow, Int.reduceToNat, Int.reduceLT, Int.reduceLE, Int.reduceNeg, Int.reduceEq, Int.reducePow, reduceIte, reduceCtorEq, Int.reduceMul, Int.reduceAdd, Int.reduceSub, Int.reduceMod, Int.reduceDiv, Int.reduceTDiv, Int.reduceTMod, iter_s]
            exact ⟨_, rfl, fin _ _ rfl rfl rfl rfl rfl rfl (by rw [hsu]; rfl)⟩
        · by_cases c6 : (dn L i).k = 4
          · by_cases c7 : d.k = 5
            · cases c5 : d.bf.getD i false with
              | true =>
                have hc : cB L d u i = false := by simp only [cB, c5]; simp
                rw [hc, Bool.or_false] at hsu
                simp -implicitDefEqProofs only [c33b0, fg33b, t2, t3, t5, t6, t7, t8, g1, g2, w1, r0, r1, r3, r4, hdl2, q5, b4, rb, rc, rd, app1_0, c1, c2, c3, c4, c5, c6, c7, push_cast, Nat.reduceAdd, Nat.reduceMul, Nat.reduceSub, Nat.reduceLT, Nat.reduceLeDiff, Nat.reduceEqDiff, Nat.reducePow, Int.reduceToNat, Int.reduceLT, Int.reduceLE, Int.reduceNeg, Int.reduceEq, Int.reducePow, reduceIte, reduceCtorEq, Int.reduceMul, Int.reduceAdd, Int.reduceSub, Int.reduceMod, Int.reduceDiv, Int.reduceTDiv, Int.reduceTMod, iter_s]
                exact ⟨_, rfl, fin _ _ rfl rfl rfl rfl rfl rfl (by rw [hsu]; rfl)⟩
              | false =>
                have hc : cB L d u i = true := by simp only [cB, c5, c1, c3, c6, c7]; simp [c2]
                rw [hc, Bool.or_true] at hsu
                simp -implicitDefEqProofs only [c33b0, fg33b, t2, t3, t5, t6, t7, t8, g1, g2, w1, r0, r1, r3, r4, hdl2, q5, b4, rb, rc, rd, app1_0, c1, c2, c3, c4, c5, c6, c7, push_cast, Nat.reduceAdd, Nat.reduceMul, Nat.reduceSub, Nat.reduceLT, Nat.reduceLeDiff, Nat.reduceEqDiff, Nat.reducePow, Int.reduceToNat, Int.reduceLT, Int.reduceLE, Int.reduceNeg, Int.reduceEq, Int.reducePow, reduceIte, reduceCtorEq, Int.reduceMul, Int.reduceAdd, Int.reduceSub, Int.reduceMod, Int.reduceDiv, Int.reduceTDiv, Int.reduceTMod, iter_s]
                exact ⟨_, rfl, fin _ _ rfl rfl rfl rfl rfl rfl (by rw [hsu]; rfl)⟩
            · have hc : cB L d u i = false := by simp [cB, c4, c7]
              rw [hc, Bool.or_false] at hsu
              simp -implicitDefEqProofs only [c33b0, fg33b, t2, t3, t5, t6, t7, t8, g1, g2, w1, r0, r1, r3, r4, hdl2, q5, b4, rb, rc, rd, app1_0, c1, c2, c3, c4, c6, c7, push_cast, Nat.reduceAdd, Nat.reduceMul, Nat.reduceSub, Nat.reduceLT, Nat.reduceLeDiff, Nat.reduceEqDiff, Nat.reducePow, Int.reduceToNat, Int.reduceLT, Int.reduceLE, Int.reduceNeg, Int.reduceEq, Int.reducePow, reduceIte, reduceCtorEq, Int.reduceMul, Int.reduceAdd, Int.reduceSub, Int.reduceMod, Int.reduceDiv, Int.reduceTDiv, Int.reduceTMod, iter_s]
              exact ⟨_, rfl, fin _ _ rfl rfl rfl rfl rfl rfl (by rw [hsu]; rfl)⟩
          · have hc : cB L d u i = false := by simp [cB, c4, c6]
            rw [hc, Bool.or_false] at hsu
            simp -implicitDefEqProofs only [c33b0, fg33b, t2, t3, t5, t6, t7, t8, g1, g2, w1, r0, r1, r3, r4, hdl2, q5, b4, rb, rc, rd, app1_0, c1, c2, c3, c4, c6, push_cast, Nat.reduceAdd, Nat.reduceMul, Nat.reduceSub, Nat.reduceLT, Nat.reduceLeDiff, Nat.reduceEqDiff, Nat.reducePow, Int.reduceToNat, Int.reduceLT, Int.reduceLE, Int.reduceNeg, Int.reduceEq, Int.reducePow, reduceIte, reduceCtorEq, Int.reduceMul, Int.reduceAdd, Int.reduceSub, Int.reduceMod, Int.reduceDiv, Int.reduceTDiv, Int.reduceTMod, iter_s]
            exact ⟨_, rfl, fin _ _ rfl rfl rfl rfl rfl rfl (by rw [hsu]; rfl)⟩
      · have hc : cB L d u i = false := by simp [cB, c3]
        rw [hc, Bool.or_false] at hsu
        simp -implicitDefEqProofs only [c33b0, fg33b, t2, t3, t5, t6, t7, t8, g1, g2, w1, r0, r1, r3, r4, hdl2, q5, b4, rb, rc, rd, app1_0, c1, c2, c3, push_cast, Nat.reduceAdd, Nat.reduceMul, Nat.reduceSub, Nat.reduceLT, Nat.reduceLeDiff, Nat.reduceEqDiff, Nat.reducePow, Int.reduceToNat, Int.reduceLT, Int.reduceLE, Int.reduceNeg, Int.reduceEq, Int.reducePow, reduceIte, reduceCtorEq, Int.reduceMul, Int.reduceAdd, Int.reduceSub, Int.reduceMod, Int.reduceDiv, Int.reduceTDiv, Int.reduceTMod, iter_s]
        exact ⟨_, rfl, fin _ _ rfl rfl rfl rfl rfl rfl (by rw [hsu]; rfl)⟩
  · have hc : cB L d u i = false := by simp [cB, c1]
    rw [hc, Bool.or_false] at hsu
    simp -implicitDefEqProofs only [c33b0, fg33b, t2, t3, t5, t6, t7, t8, g1, g2, w1, r0, r1, r3, r4, hdl2, q5, b4, rb, rc, rd, app1_0, c1, push_cast, Nat.reduceAdd, Nat.reduceMul, Nat.reduceSub, Nat.reduceLT, Nat.reduceLeDiff, Nat.reduceEqDiff, Nat.reducePow, Int.reduceToNat, Int.reduceLT, Int.reduceLE, Int.reduceNeg, Int.reduceEq, Int.reducePow, reduceIte, reduceCtorEq, Int.reduceMul, Int.reduceAdd, Int.reduceSub, Int.reduceMod, Int.reduceDiv, Int.reduceTDiv, Int.reduceTMod, iter_s]
    exact ⟨_, rfl, fin _ _ rfl rfl rfl rfl rfl rfl (by rw [hsu]; rfl)⟩
end Go.Proofs.Ytlbcandecifkcaa
