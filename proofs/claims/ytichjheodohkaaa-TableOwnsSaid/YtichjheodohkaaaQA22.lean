/- Rows that are alike are told so: as the evaluator answers, and as contracts. -/
import Derived.Test.YtichjheodohkaaaPA22
import Derived.Test.YtichjheodohkaaaEng20
set_option linter.unusedSimpArgs false
set_option linter.unusedVariables false
set_option linter.unusedSectionVars false
set_option maxRecDepth 100000
set_option maxHeartbeats 4000000
namespace Go.Proofs.Ytichjheodohkaaa
open Go Go.RowKit
theorem tlT {n : Nat} {T : List LV} (h : T.length = n) : T = (List.range n).map (getT T) := by subst h; exact tlist T
theorem tl26 {T : List LV} (h : T.length = 26) : T = [getT T 0, getT T 1, getT T 2, getT T 3, getT T 4, getT T 5, getT T 6, getT T 7, getT T 8, getT T 9, getT T 10, getT T 11, getT T 12, getT T 13, getT T 14, getT T 15, getT T 16, getT T 17, getT T 18, getT T 19, getT T 20, getT T 21, getT T 22, getT T 23, getT T 24, getT T 25] := tlT h
def fg11 : List Nat := [16, 15, 4, 25, 24, 23, 22, 21, 20, 19, 18, 17, 14, 13, 12, 11]
def V9 (vl : List Int) (n : Nat) : List LV := [.i (vl.getD (n * 9) 0), .i (vl.getD (n * 9 + 1) 0), .i (vl.getD (n * 9 + 2) 0), .i (vl.getD (n * 9 + 3) 0), .i (vl.getD (n * 9 + 4) 0), .i (vl.getD (n * 9 + 5) 0), .i (vl.getD (n * 9 + 6) 0), .i (vl.getD (n * 9 + 7) 0), .i (vl.getD (n * 9 + 8) 0)]
theorem ix9 {vl : List Int} {nv : Nat} {V : LV} (hV : SlE 9 nv vl V) (n : Nat) (h : n < nv) : ∃ rest, ixsE 9 V (.i n) = some (.pi (V9 vl n ++ rest)) := by
  have hsz := hV.sz
  obtain ⟨rest, hr⟩ := dropE vl 9 (n * 9) (by omega)
  refine ⟨rest, ?_⟩
  rw [hV.ix n h, hr]
  simp [V9, List.range_succ]
theorem ix1 {vl : List Int} {nv : Nat} {V : LV} (hV : SlE 1 nv vl V) (n : Nat) (h : n < nv) : ∃ rest, ixsE 1 V (.i n) = some (.pi (.i (vl.getD n 0) :: rest)) := by
  have hsz := hV.sz
  obtain ⟨rest, hr⟩ := dropE vl 1 (n * 1) (by omega)
  refine ⟨rest, ?_⟩
  rw [hV.ix n h, hr]
  simp [List.range_succ]
def SE (V W : LV) (i : Nat) (s : St) : Prop := ∃ T, s = (T, []) ∧ T.length = 26 ∧ getT T 0 = V ∧ getT T 1 = W ∧ getT T 5 = .i i
section
variable {l : List Int} {n : Nat} {V W : LV}
theorem e11_round (hV : SlE 9 n l V) (hW : SlE 9 n l W) (hn : n ≤ 4096) (K i : Nat) (s : St) (hi : i < n) (hs : SE V W i s) : ∃ s', evCode (evF cm K) K 0 c11b0 (cleanN fg11 s) = some (.nrm, s') ∧ SE V W (i + 1) s' := by
  obtain ⟨T, rfl, hT, t0, t1, t5⟩ := hs
  rw [tl26 hT]
  have g1 : (i : Int) < (n : Int) := by omega
  have w1 : IntKind.i64.wrap ((i : Int) + 1) = (i : Int) + 1 := by rw [w64 _ (by omega) (by omega)]
  obtain ⟨r1, x1⟩ := ix9 hV i hi
  obtain ⟨r2, x2⟩ := ix9 hW i hi
  simp only [V9, List.cons_append, List.nil_append] at x1 x2
  simp -implicitDefEqProofs only [c11b0, fg11, t0, t1, t5, hV.len, x1, x2, g1, w1, Nat.le_add_left, eq_self, push_cast, Nat.reduceAdd, Nat.reduceMul, Nat.reduceSub, Nat.reduceLT, Nat.reduceLeDiff, Nat.reduceEqDiff, Nat.reducePow, Int.reduceToNat, Int.reduceLT, Int.reduceLE, Int.reduceNeg, Int.reduceEq, Int.reducePow, reduceIte, reduceCtorEq, Int.reduceMul, Int.reduceAdd, Int.reduceSub, Int.reduceMod, Int.reduceDiv, Int.reduceTDiv, Int.reduceTMod, iter_s]
  exact ⟨_, rfl, _, rfl, rfl, rfl, rfl, rfl⟩
theorem e12_round (hV : SlE 1 n l V) (hW : SlE 1 n l W) (hn : n ≤ 4096) (K i : Nat) (s : St) (hi : i < n) (hs : SE V W i s) : ∃ s', evCode (evF cm K) K 0 c12b0 (cleanN fg11 s) = some (.nrm, s') ∧ SE V W (i + 1) s' := by
  obtain ⟨T, rfl, hT, t0, t1, t5⟩ := hs
  rw [tl26 hT]
  have g1 : (i : Int) < (n : Int) := by omega
  have w1 : IntKind.i64.wrap ((i : Int) + 1) = (i : Int) + 1 := by rw [w64 _ (by omega) (by omega)]
  obtain ⟨r1, x1⟩ := ix1 hV i hi
  obtain ⟨r2, x2⟩ := ix1 hW i hi
  simp -implicitDefEqProofs only [c12b0, fg11, t0, t1, t5, hV.len, x1, x2, g1, w1, eq_self, push_cast, Nat.reduceAdd, Nat.reduceMul, Nat.reduceSub, Nat.reduceLT, Nat.reduceLeDiff, Nat.reduceEqDiff, Nat.reducePow, Int.reduceToNat, Int.reduceLT, Int.reduceLE, Int.reduceNeg, Int.reduceEq, Int.reducePow, reduceIte, reduceCtorEq, Int.reduceMul, Int.reduceAdd, Int.reduceSub, Int.reduceMod, Int.reduceDiv, Int.reduceTDiv, Int.reduceTMod, iter_s]
  exact ⟨_, rfl, _, rfl, rfl, rfl, rfl, rfl⟩
theorem e11_last {e : Nat} (hV : SlE e n l V) (K : Nat) (s : St) (hs : SE V W n s) : ∃ s', evCode (evF cm K) K 0 c11b0 (cleanN fg11 s) = some (.exit 0, s') ∧ SE V W n s' := by
  obtain ⟨T, rfl, hT, t0, t1, t5⟩ := hs
  rw [tl26 hT]
  have g1 : ¬ (n : Int) < (n : Int) := by omega
  simp -implicitDefEqProofs only [c11b0, fg11, t0, t1, t5, hV.len, g1, push_cast, Nat.reduceAdd, Nat.reduceMul, Nat.reduceSub, Nat.reduceLT, Nat.reduceLeDiff, Nat.reduceEqDiff, Nat.reducePow, Int.reduceToNat, Int.reduceLT, Int.reduceLE, Int.reduceNeg, Int.reduceEq, Int.reducePow, reduceIte, reduceCtorEq, Int.reduceMul, Int.reduceAdd, Int.reduceSub, Int.reduceMod, Int.reduceDiv, Int.reduceTDiv, Int.reduceTMod, iter_s]
  exact ⟨_, rfl, _, rfl, rfl, rfl, rfl, rfl⟩
theorem e12_last {e : Nat} (hV : SlE e n l V) (K : Nat) (s : St) (hs : SE V W n s) : ∃ s', evCode (evF cm K) K 0 c12b0 (cleanN fg11 s) = some (.exit 0, s') ∧ SE V W n s' := by
  obtain ⟨T, rfl, hT, t0, t1, t5⟩ := hs
  rw [tl26 hT]
  have g1 : ¬ (n : Int) < (n : Int) := by omega
  simp -implicitDefEqProofs only [c12b0, fg11, t0, t1, t5, hV.len, g1, push_cast, Nat.reduceAdd, Nat.reduceMul, Nat.reduceSub, Nat.reduceLT, Nat.reduceLeDiff, Nat.reduceEqDiff, Nat.reducePow, Int.reduceToNat, Int.reduceLT, Int.reduceLE, Int.reduceNeg, Int.reduceEq, Int.reducePow, reduceIte, reduceCtorEq, Int.reduceMul, Int.reduceAdd, Int.reduceSub, Int.reduceMod, Int.reduceDiv, Int.reduceTDiv, Int.reduceTMod, iter_s]
  exact ⟨_, rfl, _, rfl, rfl, rfl, rfl, rfl⟩
theorem e11 (hV : SlE 9 n l V) (hW : SlE 9 n l W) (hn : n ≤ 4096) : evF cm 4200 11 [V, W] [] 0 = some (.b true, []) := by
  have key : ∀ s Z, iter (evCode (evF cm 4199) 4199 0 c11b0) (cleanN fg11) 4199 s = Z → SE V W 0 s → ∃ s', Z = some (.exit 0, s') ∧ SE V W n s' := by
    intro s Z hZ hs
    obtain ⟨s', h1, h2⟩ := iter_count (S := SE V W) (e := 0) (fun i s hi hs => e11_round hV hW hn 4199 i s hi hs) (fun s hs => e11_last hV 4199 s hs) n 0 s 4199 (by omega) (by omega) hs
    exact ⟨s', hZ.symm.trans h1, h2⟩
  rw [show (4200 : Nat) = 4199 + 1 from rfl, evH_fun (m := c11) rfl _ _ _ _ rfl]
  simp -implicitDefEqProofs only [c11, hV.len, hW.len, hV.cells, hW.cells, eq_self, push_cast, Nat.reduceAdd, Nat.reduceMul, Nat.reduceSub, Nat.reduceLT, Nat.reduceLeDiff, Nat.reduceEqDiff, Nat.reducePow, Int.reduceToNat, Int.reduceLT, Int.reduceLE, Int.reduceNeg, Int.reduceEq, Int.reducePow, reduceIte, reduceCtorEq, Int.reduceMul, Int.reduceAdd, Int.reduceSub, Int.reduceMod, Int.reduceDiv, Int.reduceTDiv, Int.reduceTMod]
  generalize hZ : iter _ _ _ _ = Z
  obtain ⟨s', hZ2, T, rfl, hT, t0, t1, t5⟩ := key _ _ hZ ⟨_, rfl, rfl, rfl, rfl, rfl⟩
  subst hZ2
  rw [tl26 hT]
  simp -implicitDefEqProofs only [push_cast, Nat.reduceAdd, Nat.reduceMul, Nat.reduceSub, Nat.reduceLT, Nat.reduceLeDiff, Nat.reduceEqDiff, Nat.reducePow, Int.reduceToNat, Int.reduceLT, Int.reduceLE, Int.reduceNeg, Int.reduceEq, Int.reducePow, reduceIte, reduceCtorEq, Int.reduceMul, Int.reduceAdd, Int.reduceSub, Int.reduceMod, Int.reduceDiv, Int.reduceTDiv, Int.reduceTMod]
theorem e12 (hV : SlE 1 n l V) (hW : SlE 1 n l W) (hn : n ≤ 4096) : evF cm 4200 12 [V, W] [] 0 = some (.b true, []) := by
  have key : ∀ s Z, iter (evCode (evF cm 4199) 4199 0 c12b0) (cleanN fg11) 4199 s = Z → SE V W 0 s → ∃ s', Z = some (.exit 0, s') ∧ SE V W n s' := by
    intro s Z hZ hs
    obtain ⟨s', h1, h2⟩ := iter_count (S := SE V W) (e := 0) (fun i s hi hs => e12_round hV hW hn 4199 i s hi hs) (fun s hs => e12_last hV 4199 s hs) n 0 s 4199 (by omega) (by omega) hs
    exact ⟨s', hZ.symm.trans h1, h2⟩
  rw [show (4200 : Nat) = 4199 + 1 from rfl, evH_fun (m := c12) rfl _ _ _ _ rfl]
  simp -implicitDefEqProofs only [c12, hV.len, hW.len, hV.cells, hW.cells, eq_self, push_cast, Nat.reduceAdd, Nat.reduceMul, Nat.reduceSub, Nat.reduceLT, Nat.reduceLeDiff, Nat.reduceEqDiff, Nat.reducePow, Int.reduceToNat, Int.reduceLT, Int.reduceLE, Int.reduceNeg, Int.reduceEq, Int.reducePow, reduceIte, reduceCtorEq, Int.reduceMul, Int.reduceAdd, Int.reduceSub, Int.reduceMod, Int.reduceDiv, Int.reduceTDiv, Int.reduceTMod]
  generalize hZ : iter _ _ _ _ = Z
  obtain ⟨s', hZ2, T, rfl, hT, t0, t1, t5⟩ := key _ _ hZ ⟨_, rfl, rfl, rfl, rfl, rfl⟩
  subst hZ2
  rw [tl26 hT]
  simp -implicitDefEqProofs only [push_cast, Nat.reduceAdd, Nat.reduceMul, Nat.reduceSub, Nat.reduceLT, Nat.reduceLeDiff, Nat.reduceEqDiff, Nat.reducePow, Int.reduceToNat, Int.reduceLT, Int.reduceLE, Int.reduceNeg, Int.reduceEq, Int.reducePow, reduceIte, reduceCtorEq, Int.reduceMul, Int.reduceAdd, Int.reduceSub, Int.reduceMod, Int.reduceDiv, Int.reduceTDiv, Int.reduceTMod]
end
/-- Who compares two rows that are alike is told so. -/
def EqC (f e : Nat) : Prop := ∀ (n b o c b' o' c' : Nat) (l : List Int) (w : World), 0 < n → n ≤ 4096 → l.length = n * e → n ≤ c → n ≤ c' → At w b o l → At w b' o' l → Calls Try.prog f #[.slice (some ⟨b, o, none⟩) n c, .slice (some ⟨b', o', none⟩) n c'] w fun x w' => x = .returned (.bool true) ∧ Below w.heap.size w w'
theorem eq_g {f e : Nat} (hev : ∀ (n : Nat) (l : List Int) (V W : LV), SlE e n l V → SlE e n l W → n ≤ 4096 → evF cm 4200 f [V, W] [] 0 = some (.b true, [])) : EqC f e := by
  intro n b o c b' o' c' l w h0 hn hl hc hc' hx hx'
  have hmo : Try.prog.follows .mixedOrders = true := by kernel_rfl
  have ha : ConcL ⟨[], [], fun _ => False, w⟩ [.im (l.map LV.i) n false, .im (l.map LV.i) n false] [.slice (some ⟨b, o, none⟩) n c, .slice (some ⟨b', o', none⟩) n c'] := by
    refine ⟨rfl, fun i cc u h1 h2 => ?_⟩
    match i with
    | 0 => simp at h1 h2; subst h1; subst h2; exact im_conc hc hx
    | 1 => simp at h1 h2; subst h1; subst h2; exact im_conc hc' hx'
    | i + 2 => simp at h1
  refine (((evF_ok hcm hmo 4200) f _ [] 0 _ _ (hev n l _ _ (slE_im e n l false hl) (slE_im e n l false hl) hn)).2 ⟨[], [], fun _ => False, w⟩ w.heap.size _ ha (Rel.empty _ _ fun _ h => h.elim)).mono ?_
  rintro x w' ⟨C', u, rfl, rfl, x1, x2, x3, _⟩
  have := Conc.v_inv x1
  subst this
  exact ⟨rfl, x3.below⟩
theorem eqV_c : EqC 11 9 := eq_g fun n l V W h1 h2 h3 => e11 h1 h2 h3
theorem eqI_c : EqC 12 1 := eq_g fun n l V W h1 h2 h3 => e12 h1 h2 h3
end Go.Proofs.Ytichjheodohkaaa
