/- Vertices, three by three: the law FetchThrees, as the evaluator answers. -/
import Derived.Test.YteeghebaankmlaaMT24
set_option linter.unusedSimpArgs false
set_option linter.unusedVariables false
set_option linter.unusedSectionVars false
set_option maxRecDepth 100000
set_option maxHeartbeats 16000000
namespace Go.Proofs.Yteeghebaankmlaa
open Go
theorem tri_len (vl : List Int) (g : Nat → Int) (k : Nat) : (tri vl g k).length = 27 := rfl
theorem flat_len (vl : List Int) (g : Nat → Int) : ∀ l : List Nat, (l.flatMap (tri vl g)).length = l.length * 27
  | [] => rfl
  | x :: l => by rw [List.flatMap_cons, List.length_append, flat_len vl g l, tri_len, List.length_cons]; omega
theorem cellsM_drop (vl : List Int) (g : Nat → Int) (m i : Nat) (hi : i < m) : ∃ rest, (cellsM vl g m).drop (i * 27) = tri vl g i ++ rest := by
  unfold cellsM
  obtain ⟨d, rfl⟩ : ∃ d, m = i + (d + 1) := ⟨m - i - 1, by omega⟩
  rw [List.range_add, List.flatMap_append, List.drop_append_of_le_length (by rw [flat_len]; simp), List.drop_of_length_le (by rw [flat_len]; simp)]
  rw [List.range_succ_eq_map, List.map_cons, List.flatMap_cons]
  exact ⟨List.flatMap (tri vl g) (List.map (fun x => i + x) (List.map Nat.succ (List.range d))), rfl⟩
theorem closedL_int : ∀ l : List LV, (∀ e ∈ l, ∃ z, e = .i z) → closedL l = true
  | [], _ => rfl
  | x :: l, h => by
    obtain ⟨z, rfl⟩ := h x (by simp)
    simp [closedL, closed, closedL_int l fun e he => h e (by simp [he])]
/-- What three by three hands back, closed. -/
theorem th_closed (nv : Nat) (vl : List Int) (li : Nat) (il : List Int) (fr cnt : Int) : closed (thS nv vl li il fr cnt).1 = true := by
  unfold thS
  split
  · rfl
  split
  · rfl
  split
  · split
    · rfl
    · exact closedL_int _ (cells_int _ _ _)
  · rfl
theorem e6 (k : Nat) (V I : LV) (nv li : Nat) (vl il : List Int) (fr cnt : Int) (hV : slD 9 V = some (nv, vl)) (hI : slD 1 I = some (li, il)) (hli : li ≤ 5000) :
    evP (evF cm2 (k + 1)) 6 [V, I, .i fr, .i cnt] = some (.tup [(thS nv vl li il fr cnt).1, .i (thS nv vl li il fr cnt).2]) := by
  have hc := th_closed nv vl li il fr cnt
  have h1 : evF cm2 (k + 1) 6 [V, I, .i fr, .i cnt] [] 0 = thO [V, I, .i fr, .i cnt] [] 0 := rfl
  unfold evP
  rw [h1]
  simp only [thO, hV, hI, hli, if_true]
  have hz : frz [] (.tup [(thS nv vl li il fr cnt).1, .i (thS nv vl li il fr cnt).2]) = .tup [(thS nv vl li il fr cnt).1, .i (thS nv vl li il fr cnt).2] := by
    unfold thS
    split
    · rfl
    split
    · rfl
    split
    · split <;> rfl
    · rfl
  rw [hz]
  rw [if_pos (by simp only [closed, closedL, hc, Bool.and_self])]
def fg3 : List Nat := [65, 64, 6, 78, 77, 76, 75, 74, 73, 72, 71, 70, 69, 68, 67, 66, 63, 62, 61, 60]
section
variable {vl il : List Int} {nv : Nat} {V I : LV} (hV : SlE 9 nv vl V) (hI : SlI il I)
include hV hI
def S3 (V I Z : LV) (f c : Nat) (i : Nat) (s : St) : Prop := ∃ T, s = (T, [⟨0, [.i f, .i c]⟩]) ∧ T.length = 80 ∧ getT T 0 = V ∧ getT T 1 = I ∧ getT T 5 = .p 0 0 0 ∧ getT T 7 = Z ∧ getT T 10 = .i i
theorem law_round (K f m : Nat) (hli : il.length ≤ 5000) (hb : f + 3 * m ≤ il.length) (hok : ∀ j, j < 3 * m → okJ nv il (f + j)) (i : Nat) (s : St) (hi : i < m) (hs : S3 V I (.im (cellsM vl (fun j => il.getD (f + j) 0) m) m false) f (3 * m) i s) :
    ∃ s', evCode (evF cm2 (K + 1)) (K + 1) 0 c3b0 (cleanN fg3 s) = some (.nrm, s') ∧ S3 V I (.im (cellsM vl (fun j => il.getD (f + j) 0) m) m false) f (3 * m) (i + 1) s' := by
  obtain ⟨T, rfl, hT, t0, t1, t5, t7, t10⟩ := hs
  rw [tl80 hT]
  have g1 : (i : Int) < (m : Int) := by omega
  have w0 : IntKind.i64.wrap (3 * (i : Int)) = 3 * (i : Int) := by rw [w64 _ (by omega) (by omega)]
  have w1 : IntKind.i64.wrap ((f : Int) + 3 * (i : Int)) = ((f + 3 * i : Nat) : Int) := by rw [w64 _ (by omega) (by omega)]; omega
  have w2 : IntKind.i64.wrap ((i : Int) + 1) = (i : Int) + 1 := by rw [w64 _ (by omega) (by omega)]
  have ok0 := hok (3 * i) (by omega)
  have ok1 := hok (3 * i + 1) (by omega)
  have ok2 := hok (3 * i + 2) (by omega)
  have e := fun k => e8 hV hI k (f + 3 * i) hli (by omega) ok0 ok1 ok2
  obtain ⟨rest, hr⟩ := cellsM_drop vl (fun j => il.getD (f + j) 0) m i hi
  have hix : ixsE 27 (.im (cellsM vl (fun j => il.getD (f + j) 0) m) m false) (.i i) = some (.pi (tri vl (fun j => il.getD (f + j) 0) i ++ rest)) := by
    rw [ixsE_im, if_pos ⟨by omega, g1⟩, Int.toNat_natCast, hr]
  have hcl := hV.cl
  have hcl' := hI.cl
  have hzl : closedL [V, I, .i ((f + 3 * i : Nat) : Int)] = true := by simp only [closedL, hcl, hcl', Bool.and_true, Bool.true_and]; rfl
  have ei := fun h => iso_P2 (k := K + 1) (h := h) hzl (e K)
  simp only [tri] at hix
  rw [show il.getD (f + (3 * i + 1)) 0 = il.getD (f + 3 * i + 1) 0 by rw [Nat.add_assoc], show il.getD (f + (3 * i + 2)) 0 = il.getD (f + 3 * i + 2) 0 by rw [Nat.add_assoc]] at hix
  generalize (il.getD (f + 3 * i) 0).toNat = a at *
  generalize (il.getD (f + 3 * i + 1) 0).toNat = b at *
  generalize (il.getD (f + 3 * i + 2) 0).toNat = c at *
  generalize hZ : LV.im (cellsM vl (fun j => il.getD (f + j) 0) m) m false = Z at *
  have hlen : lenE Z = some (.i m) := by rw [← hZ]; rfl
  simp only [V9, List.cons_append, List.nil_append] at hix e ei
  generalize ((f + 3 * i : Nat) : Int) = p at *
  simp -implicitDefEqProofs (maxSteps := 2000000) only [c3b0, fg3, t0, t1, t5, t7, t10, hlen, hcl, hcl', hV.cells, hI.cells, hix, e, ei, g1, w0, w1, w2, Nat.le_add_left, eq_self, push_cast, Nat.reduceAdd, Nat.reduceMul, Nat.reduceSub, Nat.reduceLT, Nat.reduceLeDiff, Nat.reduceEqDiff, Nat.reducePow, Int.reduceToNat, Int.reduceLT, Int.reduceLE, Int.reduceNeg, Int.reduceEq, Int.reducePow, reduceIte, reduceCtorEq, Int.reduceMul, Int.reduceAdd, Int.reduceSub, Int.reduceMod, Int.reduceDiv, Int.reduceTDiv, Int.reduceTMod, iter_s]
  exact ⟨_, rfl, _, rfl, rfl, rfl, rfl, rfl, rfl, rfl⟩
theorem law_last (K f m : Nat) (Z : LV) (hlen : lenE Z = some (.i m)) (s : St) (hs : S3 V I Z f (3 * m) m s) :
    ∃ s', evCode (evF cm2 (K + 1)) (K + 1) 0 c3b0 (cleanN fg3 s) = some (.exit 0, s') ∧ S3 V I Z f (3 * m) m s' := by
  obtain ⟨T, rfl, hT, t0, t1, t5, t7, t10⟩ := hs
  rw [tl80 hT]
  have g1 : ¬ (m : Int) < (m : Int) := by omega
  simp -implicitDefEqProofs (maxSteps := 2000000) only [c3b0, fg3, t0, t1, t5, t7, t10, hlen, g1, push_cast, Nat.reduceAdd, Nat.reduceMul, Nat.reduceSub, Nat.reduceLT, Nat.reduceLeDiff, Nat.reduceEqDiff, Nat.reducePow, Int.reduceToNat, Int.reduceLT, Int.reduceLE, Int.reduceNeg, Int.reduceEq, Int.reducePow, reduceIte, reduceCtorEq, Int.reduceMul, Int.reduceAdd, Int.reduceSub, Int.reduceMod, Int.reduceDiv, Int.reduceTDiv, Int.reduceTMod, iter_s]
  exact ⟨_, rfl, _, rfl, rfl, rfl, rfl, rfl, rfl, rfl⟩
theorem ok_iff (f m : Nat) : (∀ k, k < m → okI nv (fun j => il.getD (f + j) 0) k) ↔ ∀ j, j < 3 * m → okJ nv il (f + j) := by
  constructor
  · intro h j hj
    have hk := h (j / 3) (by omega)
    unfold okI at hk
    obtain ⟨h0, h1, h2⟩ := hk
    have : j = 3 * (j / 3) ∨ j = 3 * (j / 3) + 1 ∨ j = 3 * (j / 3) + 2 := by omega
    rcases this with e | e | e
    · rw [e]; exact h0
    · rw [e]; exact h1
    · rw [e]; exact h2
  · intro h k hk
    exact ⟨h (3 * k) (by omega), h (3 * k + 1) (by omega), h (3 * k + 2) (by omega)⟩
theorem e3 (K : Nat) (f c : Int) (dV : slD 9 V = some (nv, vl)) (dI : slD 1 I = some (il.length, il)) : evP (evF cm2 (K + 5200)) 3 [V, I, .agg [.i f, .i c]] = some (.b true) := by
  have e5 : evP (evF cm2 (K + 5199)) 5 [] = some (.b true) := e5' (K + 5114)
  have hcl := hV.cl
  have hcl' := hI.cl
  rw [evP_fun (m := c3) rfl _ _ rfl]
  by_cases n1 : 2000 < (nv : Int)
  · simp -implicitDefEqProofs only [c3, hV.cells, hI.cells, hcl, hcl', hV.len, hI.len, n1, e5, push_cast, Nat.reduceAdd, Nat.reduceMul, Nat.reduceSub, Nat.reduceLT, Nat.reduceLeDiff, Nat.reduceEqDiff, Nat.reducePow, Int.reduceToNat, Int.reduceLT, Int.reduceLE, Int.reduceNeg, Int.reduceEq, Int.reducePow, reduceIte, reduceCtorEq, Int.reduceMul, Int.reduceAdd, Int.reduceSub, Int.reduceMod, Int.reduceDiv, Int.reduceTDiv, Int.reduceTMod, iter_s]
  by_cases n2 : 5000 < (il.length : Int)
  · simp -implicitDefEqProofs only [c3, hV.cells, hI.cells, hcl, hcl', hV.len, hI.len, n1, n2, e5, push_cast, Nat.reduceAdd, Nat.reduceMul, Nat.reduceSub, Nat.reduceLT, Nat.reduceLeDiff, Nat.reduceEqDiff, Nat.reducePow, Int.reduceToNat, Int.reduceLT, Int.reduceLE, Int.reduceNeg, Int.reduceEq, Int.reducePow, reduceIte, reduceCtorEq, Int.reduceMul, Int.reduceAdd, Int.reduceSub, Int.reduceMod, Int.reduceDiv, Int.reduceTDiv, Int.reduceTMod, iter_s]
  have hli : il.length ≤ 5000 := by omega
  have e := fun k => e6 k V I nv il.length vl il f c dV dI hli
  by_cases a3 : f < 0 ∨ c < 0 ∨ c % 3 ≠ 0
  · rw [show thS nv vl il.length il f c = (.nils, 3) from if_pos a3] at e
    have e7 := fun k => e7a hV hI k f c a3
    simp -implicitDefEqProofs only [c3, hV.cells, hI.cells, hcl, hcl', hV.len, hI.len, n1, n2, e5, e, e7, push_cast, Nat.reduceAdd, Nat.reduceMul, Nat.reduceSub, Nat.reduceLT, Nat.reduceLeDiff, Nat.reduceEqDiff, Nat.reducePow, Int.reduceToNat, Int.reduceLT, Int.reduceLE, Int.reduceNeg, Int.reduceEq, Int.reducePow, reduceIte, reduceCtorEq, Int.reduceMul, Int.reduceAdd, Int.reduceSub, Int.reduceMod, Int.reduceDiv, Int.reduceTDiv, Int.reduceTMod, iter_s]
  by_cases a10 : (il.length : Int) < f ∨ (il.length : Int) - f < c
  · rw [show thS nv vl il.length il f c = (.nils, 10) from by unfold thS; rw [if_neg a3, if_pos a10]] at e
    have e7 := fun k => e7b hV hI k f c hli (by omega) (by omega) (by omega) a10
    simp -implicitDefEqProofs only [c3, hV.cells, hI.cells, hcl, hcl', hV.len, hI.len, n1, n2, e5, e, e7, push_cast, Nat.reduceAdd, Nat.reduceMul, Nat.reduceSub, Nat.reduceLT, Nat.reduceLeDiff, Nat.reduceEqDiff, Nat.reducePow, Int.reduceToNat, Int.reduceLT, Int.reduceLE, Int.reduceNeg, Int.reduceEq, Int.reducePow, reduceIte, reduceCtorEq, Int.reduceMul, Int.reduceAdd, Int.reduceSub, Int.reduceMod, Int.reduceDiv, Int.reduceTDiv, Int.reduceTMod, iter_s]
  obtain ⟨f, rfl⟩ : ∃ n : Nat, f = n := ⟨f.toNat, by omega⟩
  obtain ⟨m, rfl⟩ : ∃ m : Nat, c = ((3 * m : Nat) : Int) := ⟨c.toNat / 3, by omega⟩
  have hm3 : ((3 * m : Nat) : Int).toNat / 3 = m := by omega
  have hb : f + 3 * m ≤ il.length := by omega
  have h7 := e7c hV hI (K + 197) f (3 * m) hli hb (by omega)
  rcases h7 with ⟨h7, hok⟩ | ⟨h7, j, hj, hbad⟩
  · have h7 : evP (evF cm2 (K + 5199)) 7 [V, I, .i f, .i (3 * (m : Int))] = some (.i 0) := h7
    have hall := (ok_iff hV hI f m).2 hok
    have w3 : IntKind.i64.wrap (3 * (m : Int)) = 3 * (m : Int) := by rw [w64 _ (by omega) (by omega)]
    by_cases hm : m = 0
    · subst hm
      have e : ∀ k, evP (evF cm2 (k + 1)) 6 [V, I, .i f, .i 0] = some (.tup [.nils, .i 0]) := fun k => by
        have := e k
        unfold thS at this
        rw [if_neg a3, if_neg a10, hm3, if_pos (by rw [Int.toNat_natCast]; exact hall), if_pos (by rfl)] at this
        exact this
      have h7 : evP (evF cm2 (K + 5199)) 7 [V, I, .i f, .i 0] = some (.i 0) := h7
      have z0 : ((3 * 0 : Nat) : Int) = 0 := rfl
      rw [z0]
      have key : ∀ s Z, iter (evCode (evF cm2 (K + 5199)) (K + 5199) 0 c3b0) (cleanN fg3) (K + 5199) s = Z → S3 V I .nils f (3 * 0) 0 s → ∃ s', Z = some (.exit 0, s') ∧ S3 V I .nils f (3 * 0) 0 s' := by
        intro s Z hZ hs
        obtain ⟨s', h1, h2⟩ := iter_count (S := S3 V I .nils f (3 * 0)) (e := 0) (fun i s hi hs => absurd hi (Nat.not_lt_zero _)) (fun s hs => law_last hV hI (K + 5198) f 0 .nils rfl s hs) 0 0 s (K + 5199) (by omega) (by omega) hs
        exact ⟨s', hZ.symm.trans h1, h2⟩
      simp -implicitDefEqProofs only [c3, hV.cells, hI.cells, hcl, hcl', hV.len, hI.len, n1, n2, e5, e, h7, push_cast, Nat.reduceAdd, Nat.reduceMul, Nat.reduceSub, Nat.reduceLT, Nat.reduceLeDiff, Nat.reduceEqDiff, Nat.reducePow, Int.reduceToNat, Int.reduceLT, Int.reduceLE, Int.reduceNeg, Int.reduceEq, Int.reducePow, reduceIte, reduceCtorEq, Int.reduceMul, Int.reduceAdd, Int.reduceSub, Int.reduceMod, Int.reduceDiv, Int.reduceTDiv, Int.reduceTMod]
      generalize hZ : iter _ _ _ _ = Z
      obtain ⟨s', hZ2, T, rfl, hT, t0, t1, t5, t7, t10⟩ := key _ _ hZ ⟨_, rfl, rfl, rfl, rfl, rfl, rfl, rfl⟩
      subst hZ2
      rw [tl80 hT]
      simp -implicitDefEqProofs only [e5, push_cast, Nat.reduceAdd, Nat.reduceMul, Nat.reduceSub, Nat.reduceLT, Nat.reduceLeDiff, Nat.reduceEqDiff, Nat.reducePow, Int.reduceToNat, Int.reduceLT, Int.reduceLE, Int.reduceNeg, Int.reduceEq, Int.reducePow, reduceIte, reduceCtorEq, Int.reduceMul, Int.reduceAdd, Int.reduceSub, Int.reduceMod, Int.reduceDiv, Int.reduceTDiv, Int.reduceTMod]
    · have e : ∀ k, evP (evF cm2 (k + 1)) 6 [V, I, .i f, .i (3 * (m : Int))] = some (.tup [.im (cellsM vl (fun j => il.getD (f + j) 0) m) m false, .i 0]) := fun k => by
        have := e k
        unfold thS at this
        rw [if_neg a3, if_neg a10, hm3, if_pos (by rw [Int.toNat_natCast]; exact hall), if_neg (by omega), Int.toNat_natCast] at this
        exact this
      have hround := fun K i s hi hs => law_round hV hI K f m hli hb hok i s hi hs
      have hlast := fun K s hs => law_last hV hI K f m (.im (cellsM vl (fun j => il.getD (f + j) 0) m) m false) rfl s hs
      have hzc : closed (.im (cellsM vl (fun j => il.getD (f + j) 0) m) m false) = true := closedL_int _ (cells_int _ _ _)
      have hzl : lenE (.im (cellsM vl (fun j => il.getD (f + j) 0) m) m false) = some (.i m) := rfl
      generalize LV.im (cellsM vl (fun j => il.getD (f + j) 0) m) m false = Z at *
      have key : ∀ s Y, iter (evCode (evF cm2 (K + 5199)) (K + 5199) 0 c3b0) (cleanN fg3) (K + 5199) s = Y → S3 V I Z f (3 * m) 0 s → ∃ s', Y = some (.exit 0, s') ∧ S3 V I Z f (3 * m) m s' := by
        intro s Y hY hs
        obtain ⟨s', h1, h2⟩ := iter_count (S := S3 V I Z f (3 * m)) (e := 0) (fun i s hi hs => hround (K + 5198) i s hi hs) (fun s hs => hlast (K + 5198) s hs) m 0 s (K + 5199) (by omega) (by omega) hs
        exact ⟨s', hY.symm.trans h1, h2⟩
      have key : ∀ s Y, iter (evCode (evF cm2 (K + 5199)) (K + 5199) 0 c3b0) (cleanN fg3) (K + 5199) s = Y → (∃ T, s = (T, [⟨0, [.i f, .i (3 * (m : Int))]⟩]) ∧ T.length = 80 ∧ getT T 0 = V ∧ getT T 1 = I ∧ getT T 5 = .p 0 0 0 ∧ getT T 7 = Z ∧ getT T 10 = .i 0) → ∃ T, Y = some (.exit 0, (T, [⟨0, [.i f, .i (3 * (m : Int))]⟩])) ∧ T.length = 80 := by
        intro s Y hY hs
        obtain ⟨s', h1, T, h2, h3, _⟩ := key s Y hY hs
        subst h2
        exact ⟨T, h1, h3⟩
      push_cast
      simp -implicitDefEqProofs only [c3, hV.cells, hI.cells, hcl, hcl', hV.len, hI.len, n1, n2, e5, e, h7, w3, hzc, hzl, push_cast, Nat.reduceAdd, Nat.reduceMul, Nat.reduceSub, Nat.reduceLT, Nat.reduceLeDiff, Nat.reduceEqDiff, Nat.reducePow, Int.reduceToNat, Int.reduceLT, Int.reduceLE, Int.reduceNeg, Int.reduceEq, Int.reducePow, reduceIte, reduceCtorEq, Int.reduceMul, Int.reduceAdd, Int.reduceSub, Int.reduceMod, Int.reduceDiv, Int.reduceTDiv, Int.reduceTMod]
      generalize hY : iter _ _ _ _ = Y
      obtain ⟨T, hY2, hT⟩ := key _ _ hY ⟨_, rfl, rfl, rfl, rfl, rfl, rfl, rfl⟩
      subst hY2
      rw [tl80 hT]
      simp -implicitDefEqProofs only [e5, push_cast, Nat.reduceAdd, Nat.reduceMul, Nat.reduceSub, Nat.reduceLT, Nat.reduceLeDiff, Nat.reduceEqDiff, Nat.reducePow, Int.reduceToNat, Int.reduceLT, Int.reduceLE, Int.reduceNeg, Int.reduceEq, Int.reducePow, reduceIte, reduceCtorEq, Int.reduceMul, Int.reduceAdd, Int.reduceSub, Int.reduceMod, Int.reduceDiv, Int.reduceTDiv, Int.reduceTMod]
  · have h7 : evP (evF cm2 (K + 5199)) 7 [V, I, .i f, .i (3 * (m : Int))] = some (.i 10) := h7
    have e : ∀ k, evP (evF cm2 (k + 1)) 6 [V, I, .i f, .i (3 * (m : Int))] = some (.tup [.nils, .i 10]) := fun k => by
      have := e k
      unfold thS at this
      rw [if_neg a3, if_neg a10, hm3, if_neg (fun hh => hbad ((ok_iff hV hI f m).1 (by rw [Int.toNat_natCast] at hh; exact hh) j hj))] at this
      exact this
    push_cast
    simp -implicitDefEqProofs only [c3, hV.cells, hI.cells, hcl, hcl', hV.len, hI.len, n1, n2, e5, e, h7, push_cast, Nat.reduceAdd, Nat.reduceMul, Nat.reduceSub, Nat.reduceLT, Nat.reduceLeDiff, Nat.reduceEqDiff, Nat.reducePow, Int.reduceToNat, Int.reduceLT, Int.reduceLE, Int.reduceNeg, Int.reduceEq, Int.reducePow, reduceIte, reduceCtorEq, Int.reduceMul, Int.reduceAdd, Int.reduceSub, Int.reduceMod, Int.reduceDiv, Int.reduceTDiv, Int.reduceTMod, iter_s]
end
theorem flat_ints {e : Nat} {L : List (List LV)} (h : ∀ x ∈ L, ∃ l : List Int, x = l.map LV.i ∧ l.length = e) : ∃ l : List Int, L.flatten = l.map LV.i ∧ l.length = L.length * e := by
  induction L with
  | nil => exact ⟨[], rfl, by simp⟩
  | cons x L ih =>
    obtain ⟨l, h1, h2⟩ := ih fun y hy => h y (by simp [hy])
    obtain ⟨a, h3, h4⟩ := h x (by simp)
    refine ⟨a ++ l, by simp [h3, h1], ?_⟩
    rw [List.length_append, h4, h2, List.length_cons, Nat.succ_mul]; omega
/-- What comes in as a slice, as it is held. -/
theorem sl_form {sh : Sh} {e : Nat} {cs : List LV} (he : ∀ x, Is sh x → ∃ l : List Int, x = l.map LV.i ∧ l.length = e) (h : Is (.sl sh) cs) : ∃ n l S, cs = [S] ∧ SlE e n l S ∧ slD e S = some (n, l) ∧ (e = 1 → n = l.length ∧ SlI l S) := by
  rcases h with rfl | ⟨L, rfl, _, hL⟩
  · exact ⟨0, [], _, rfl, slE_nil e, rfl, fun _ => ⟨rfl, slI_nil⟩⟩
  · obtain ⟨l, h1, h2⟩ := flat_ints fun x hx => he x (hL x hx)
    refine ⟨L.length, l, _, by rw [h1], slE_im e L.length l false h2, ?_, fun h => ?_⟩
    · simp only [slD, ivs_of, if_pos h2]
    · subst h
      have hl : L.length = l.length := by omega
      exact ⟨hl, by rw [hl]; exact slI_im l false⟩
theorem is_int : ∀ x, Is (.i .i64) x → ∃ l : List Int, x = l.map LV.i ∧ l.length = 1 := by
  rintro x ⟨n, rfl, _, _⟩
  exact ⟨[n], rfl, rfl⟩
theorem is_vert : ∀ x, Is (.agg [.i .i64, .i .i64, .i .i64, .agg [.i .i64, .i .i64, .i .i64, .i .i64], .i .i64, .i .i64]) x → ∃ l : List Int, x = l.map LV.i ∧ l.length = 9 := by
  rintro x ⟨_, _, rfl, ⟨a, rfl, _, _⟩, _, _, rfl, ⟨b, rfl, _, _⟩, _, _, rfl, ⟨c, rfl, _, _⟩, _, _, rfl, ⟨_, _, rfl, ⟨d, rfl, _, _⟩, _, _, rfl, ⟨e, rfl, _, _⟩, _, _, rfl, ⟨f, rfl, _, _⟩, _, _, rfl, ⟨g, rfl, _, _⟩, rfl⟩, _, _, rfl, ⟨u, rfl, _, _⟩, _, _, rfl, ⟨v, rfl, _, _⟩, rfl⟩
  exact ⟨[a, b, c, d, e, f, g, u, v], rfl, rfl⟩
end Go.Proofs.Yteeghebaankmlaa
