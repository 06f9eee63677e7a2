/- However the steps of who publishes and of workers come, frames are claimed once each, in order, and nothing clashes (RingOrder), as the evaluator answers. -/
import Derived.Test.YtcmlnjkbdlakfaaR2S
set_option linter.unusedSimpArgs false
set_option linter.unusedVariables false
set_option linter.unusedSectionVars false
set_option maxRecDepth 100000
set_option maxHeartbeats 16000000
namespace Go.Proofs.Ytcmlnjkbdlakfaa
open Go
theorem repC_cl (a b d e : LV) (n : Nat) : repC [a, b, d, e] n = cl (n * 4) fun j => if j % 4 = 0 then a else if j % 4 = 1 then b else if j % 4 = 2 then d else e := by
  refine List.ext_getElem? fun j => ?_
  induction n generalizing j with
  | zero => simp [repC, cl]
  | succ n ih =>
    simp only [repC]
    match j with
    | 0 => rw [cl_get (by omega)]; rfl
    | 1 => rw [cl_get (by omega)]; rfl
    | 2 => rw [cl_get (by omega)]; rfl
    | 3 => rw [cl_get (by omega)]; rfl
    | j + 4 =>
      show (repC [a, b, d, e] n)[j]? = _
      rw [ih]
      by_cases h : j < n * 4
      · rw [cl_get h, cl_get (by omega)]
        simp only [Nat.add_mod_right]
      · rw [List.getElem?_eq_none (by rw [cl_length]; omega), List.getElem?_eq_none (by rw [cl_length]; omega)]
def zc (j : Nat) : LV := if j % 4 = 0 then .v (.pointer none) else if j % 4 = 1 then .i 0 else if j % 4 = 2 then .i 0 else .b false
def gr0 (m : Nat) : GR → Nat
  | .rg => m
  | .ls => m + 1
  | .gm => m + 2
  | _ => 0
theorem rowEnd (Y : List Row) (cs : List LV) : rowOf (Y ++ [⟨0, cs⟩]) Y.length 0 = some cs := rowOf_app_eq
/-- Where a run begins. -/
theorem run0 {S1 S2 : LV} {K W : Nat} {l p : List Int} {g1 : List Row} {row : Tg → Nat} (H : MemAt g1 (AM.new (W + 1) (K + 3) (K + 1) 1) row) (hpp : g1[0]? = some ⟨0, [.i K, S1, .i W, S2]⟩) (h0 : ¬ own (AM.new (W + 1) (K + 3) (K + 1) 1) row 0) (hg : 0 < g1.length) :
    RunSt S1 S2 K W l p (g1.length + 2) (row .mem) 0 (g1 ++ [⟨0, [.i K, .i 0, .i 0, .i 0, .i 0, .i 0]⟩, ⟨0, cl (W * 4) zc⟩, ⟨0, [.i K, S1, .i W, S2, .p (row .mem) 0 0, .p g1.length 0 0, .v (.pointer none), .sl (g1.length + 1) 0 0 W 4 W, .i 0, .nils, .i 0, .b false]⟩]) row (gr0 g1.length) [] := by
  refine ⟨⟨H.app _, ⟨fun τ hτ => ?_, fun τ τ' h1 h2 e => ?_⟩, fun τ hτ hh => ?_⟩, ax_new K W, rfl, rfl, rfl, rfl⟩
  · cases τ with
    | gm =>
      show (g1 ++ _)[g1.length + 2]? = _
      rw [List.getElem?_append_right (by omega), Nat.add_sub_cancel_left]; rfl
    | ls =>
      show (g1 ++ _)[g1.length + 1]? = _
      rw [List.getElem?_append_right (by omega), Nat.add_sub_cancel_left]
      simp only [contR]
      refine congrArg some (congrArg (Row.mk 0) (cl4_congr fun t ht => ?_))
      rw [qc0, qc1, qc2, qc3]
      refine ⟨?_, ?_, ?_, ?_⟩
      · unfold zc; rw [if_pos (by omega)]; rfl
      · unfold zc; rw [if_neg (by omega), if_pos (by omega)]; rfl
      · unfold zc; rw [if_neg (by omega), if_neg (by omega), if_pos (by omega)]; rfl
      · unfold zc; rw [if_neg (by omega), if_neg (by omega), if_neg (by omega)]; rfl
    | rg =>
      show (g1 ++ _)[g1.length]? = _
      rw [List.getElem?_append_right (by omega), Nat.sub_self]; rfl
    | pp =>
      show (g1 ++ _)[0]? = _
      rw [List.getElem?_append_left hg]; exact hpp
    | pb => exact absurd rfl hτ
    | op t => exact absurd rfl hτ.2
    | cl => exact absurd rfl hτ
  · cases τ with
    | pb => exact absurd rfl h1
    | op t => exact absurd rfl h1.2
    | cl => exact absurd rfl h1
    | _ => cases τ' with
      | pb => exact absurd rfl h2
      | op t => exact absurd rfl h2.2
      | cl => exact absurd rfl h2
      | _ => first | rfl | (simp only [gr0] at e; omega)
  · cases τ with
    | pb => exact absurd rfl hτ
    | op t => exact absurd rfl hτ.2
    | cl => exact absurd rfl hτ
    | pp => exact h0 hh
    | _ => have := H.own hh; simp only [gr0] at this; omega
theorem need_ok (k : Nat) (K : Int) (h : 1 ≤ K ∧ K ≤ 8) : evP (evF cm (k + 1)) 7 [.i K] = some (.tup [.i (K + 3), .i (K + 1)]) := by
  have w1 : IntKind.i64.wrap (K + 3) = K + 3 := w64 _ (by omega) (by omega)
  have w2 : IntKind.i64.wrap (K + 1) = K + 1 := w64 _ (by omega) (by omega)
  rw [evP_fun (m := c7) rfl _ _ rfl]
  simp -implicitDefEqProofs only [c7, w1, w2, push_cast, Nat.reduceAdd, Nat.reduceMul, Nat.reduceSub, Nat.reduceLT, Nat.reduceLeDiff, Nat.reduceEqDiff, Nat.reducePow, Int.reduceToNat, Int.reduceLT, Int.reduceLE, Int.reduceNeg, Int.reduceEq, Int.reducePow, reduceIte, reduceCtorEq, Int.reduceMul, Int.reduceAdd, Int.reduceSub, Int.reduceMod, Int.reduceDiv, Int.reduceTDiv, Int.reduceTMod, iter_s]
theorem new_ring0 (k : Nat) (K : Int) (h : 1 ≤ K ∧ K ≤ 8) : evF cm (k + 1) 9 [.i K, .i 0, .i 0, .i 0] [] 0 = some (.tup [.p 0 0 0, .i 0], [⟨0, [.i K, .i 0, .i 0, .i 0, .i 0, .i 0]⟩]) := by
  have h1 : ¬ K < 1 := by omega
  have h2 : ¬ 8 < K := by omega
  rw [evH_fun (m := c9) rfl _ _ _ _ rfl]
  simp -implicitDefEqProofs only [c9, h1, h2, push_cast, Nat.reduceAdd, Nat.reduceMul, Nat.reduceSub, Nat.reduceLT, Nat.reduceLeDiff, Nat.reduceEqDiff, Nat.reducePow, Int.reduceToNat, Int.reduceLT, Int.reduceLE, Int.reduceNeg, Int.reduceEq, Int.reducePow, reduceIte, reduceCtorEq, Int.reduceMul, Int.reduceAdd, Int.reduceSub, Int.reduceMod, Int.reduceDiv, Int.reduceTDiv, Int.reduceTMod, iter_s]
theorem e3 (k : Nat) (l p : List Int) (S1 S2 : LV) (hS1 : SlI l S1) (z1 : eqLV S1 S1 = true) (hS2 : SlU p S2) (Ki Wi : Int) : ∃ h', evF cm (k + 30000) 3 [.agg [.i Ki, S1, .i Wi, S2]] [] 0 = some (.b true, h') := by
  have ea : ∀ k, evP (evF cm (k + 200)) 6 [] = some (.b true) := e6
  rw [evH_fun (m := c3) rfl _ _ _ _ rfl]
  have s1 := hS1.len
  have s2 := hS2.len
  have a1 := hS1.atm
  have a2 := hS2.atm
  have c1 := hS1.cells
  have c2 := hS2.cells
  by_cases h1 : Ki < 1
  · simp -implicitDefEqProofs only [c3, s1, s2, a1, a2, c1, c2, h1, ea, push_cast, Nat.reduceAdd, Nat.reduceMul, Nat.reduceSub, Nat.reduceLT, Nat.reduceLeDiff, Nat.reduceEqDiff, Nat.reducePow, Int.reduceToNat, Int.reduceLT, Int.reduceLE, Int.reduceNeg, Int.reduceEq, Int.reducePow, reduceIte, reduceCtorEq, Int.reduceMul, Int.reduceAdd, Int.reduceSub, Int.reduceMod, Int.reduceDiv, Int.reduceTDiv, Int.reduceTMod]
    exact ⟨_, rfl⟩
  by_cases h2 : 8 < Ki
  · simp -implicitDefEqProofs only [c3, s1, s2, a1, a2, c1, c2, h1, h2, ea, push_cast, Nat.reduceAdd, Nat.reduceMul, Nat.reduceSub, Nat.reduceLT, Nat.reduceLeDiff, Nat.reduceEqDiff, Nat.reducePow, Int.reduceToNat, Int.reduceLT, Int.reduceLE, Int.reduceNeg, Int.reduceEq, Int.reducePow, reduceIte, reduceCtorEq, Int.reduceMul, Int.reduceAdd, Int.reduceSub, Int.reduceMod, Int.reduceDiv, Int.reduceTDiv, Int.reduceTMod]
    exact ⟨_, rfl⟩
  by_cases h3 : (8 : Int) < (l.length : Int)
  · simp -implicitDefEqProofs only [c3, s1, s2, a1, a2, c1, c2, h1, h2, h3, ea, push_cast, Nat.reduceAdd, Nat.reduceMul, Nat.reduceSub, Nat.reduceLT, Nat.reduceLeDiff, Nat.reduceEqDiff, Nat.reducePow, Int.reduceToNat, Int.reduceLT, Int.reduceLE, Int.reduceNeg, Int.reduceEq, Int.reducePow, reduceIte, reduceCtorEq, Int.reduceMul, Int.reduceAdd, Int.reduceSub, Int.reduceMod, Int.reduceDiv, Int.reduceTDiv, Int.reduceTMod]
    exact ⟨_, rfl⟩
  by_cases h4 : Wi < 1
  · simp -implicitDefEqProofs only [c3, s1, s2, a1, a2, c1, c2, h1, h2, h3, h4, ea, push_cast, Nat.reduceAdd, Nat.reduceMul, Nat.reduceSub, Nat.reduceLT, Nat.reduceLeDiff, Nat.reduceEqDiff, Nat.reducePow, Int.reduceToNat, Int.reduceLT, Int.reduceLE, Int.reduceNeg, Int.reduceEq, Int.reducePow, reduceIte, reduceCtorEq, Int.reduceMul, Int.reduceAdd, Int.reduceSub, Int.reduceMod, Int.reduceDiv, Int.reduceTDiv, Int.reduceTMod]
    exact ⟨_, rfl⟩
  by_cases h5 : 5 < Wi
  · simp -implicitDefEqProofs only [c3, s1, s2, a1, a2, c1, c2, h1, h2, h3, h4, h5, ea, push_cast, Nat.reduceAdd, Nat.reduceMul, Nat.reduceSub, Nat.reduceLT, Nat.reduceLeDiff, Nat.reduceEqDiff, Nat.reducePow, Int.reduceToNat, Int.reduceLT, Int.reduceLE, Int.reduceNeg, Int.reduceEq, Int.reducePow, reduceIte, reduceCtorEq, Int.reduceMul, Int.reduceAdd, Int.reduceSub, Int.reduceMod, Int.reduceDiv, Int.reduceTDiv, Int.reduceTMod]
    exact ⟨_, rfl⟩
  by_cases h6 : (300 : Int) < (p.length : Int)
  · simp -implicitDefEqProofs only [c3, s1, s2, a1, a2, c1, c2, h1, h2, h3, h4, h5, h6, ea, push_cast, Nat.reduceAdd, Nat.reduceMul, Nat.reduceSub, Nat.reduceLT, Nat.reduceLeDiff, Nat.reduceEqDiff, Nat.reducePow, Int.reduceToNat, Int.reduceLT, Int.reduceLE, Int.reduceNeg, Int.reduceEq, Int.reducePow, reduceIte, reduceCtorEq, Int.reduceMul, Int.reduceAdd, Int.reduceSub, Int.reduceMod, Int.reduceDiv, Int.reduceTDiv, Int.reduceTMod]
    exact ⟨_, rfl⟩
  obtain ⟨K, rfl⟩ : ∃ K : Nat, Ki = K := ⟨Ki.toNat, by omega⟩
  obtain ⟨W, rfl⟩ : ∃ W : Nat, Wi = W := ⟨Wi.toNat, by omega⟩
  have key1 : ∀ s I, iter (evCode (evF cm (k + 29999)) (k + 29999) 0 c3b1) (cleanN fgT) (k + 29999) s = I → STk S1 S2 K W l 0 s → (∃ s', I = some (.exit 0, s') ∧ STk S1 S2 K W l l.length s') ∨ (∃ s', I = some (.ret, s') ∧ RTk s') := by
    intro s I hI hs
    have := @iter_until (evCode (evF cm (k + 29999)) (k + 29999) 0 c3b1) (cleanN fgT) (STk S1 S2 K W l) (STk S1 S2 K W l l.length) RTk l.length 0
      (fun i s hi hs => tasks_round (k + 29999) (by omega) hS1 (by omega) i s hi hs) (fun s hs => tasks_last (k + 29999) hS1 s hs) l.length 0 s (k + 29999) (by omega) (by omega) hs
    rw [hI] at this; exact this
  simp -implicitDefEqProofs only [c3, s1, s2, a1, a2, c1, c2, h1, h2, h3, h4, h5, h6, ea, push_cast, Nat.reduceAdd, Nat.reduceMul, Nat.reduceSub, Nat.reduceLT, Nat.reduceLeDiff, Nat.reduceEqDiff, Nat.reducePow, Int.reduceToNat, Int.reduceLT, Int.reduceLE, Int.reduceNeg, Int.reduceEq, Int.reducePow, reduceIte, reduceCtorEq, Int.reduceMul, Int.reduceAdd, Int.reduceSub, Int.reduceMod, Int.reduceDiv, Int.reduceTDiv, Int.reduceTMod]
  generalize hI : iter _ _ _ _ = I
  rcases key1 _ _ hI ⟨_, rfl, rfl, rfl, rfl, fun f hf => absurd hf (Nat.not_lt_zero _)⟩ with ⟨s', hI2, T, rfl, hT, t1, t3, hg⟩ | ⟨s', hI2, T, h, rfl, hT, t2, hne⟩
  rotate_left
  · subst hI2
    rw [tl196 hT]
    simp -implicitDefEqProofs only [t2, push_cast, Nat.reduceAdd, Nat.reduceMul, Nat.reduceSub, Nat.reduceLT, Nat.reduceLeDiff, Nat.reduceEqDiff, Nat.reducePow, Int.reduceToNat, Int.reduceLT, Int.reduceLE, Int.reduceNeg, Int.reduceEq, Int.reducePow, reduceIte, reduceCtorEq, Int.reduceMul, Int.reduceAdd, Int.reduceSub, Int.reduceMod, Int.reduceDiv, Int.reduceTDiv, Int.reduceTMod]
    exact ⟨_, rfl⟩
  subst hI2
  clear hI
  have en := fun k => need_ok k K (by omega)
  have er := fun a => new_ring0 a K (by omega)
  have erp : ∀ a, evP (evF cm (a + 1)) 9 [.i K, .i 0, .i 0, .i 0] = none := fun a => by unfold evP; rw [er]; rfl
  obtain ⟨n, hn⟩ : ∃ n : Nat, n = W + 1 := ⟨_, rfl⟩
  obtain ⟨na, hna⟩ : ∃ na : Nat, na = K + 3 := ⟨_, rfl⟩
  obtain ⟨np, hnp⟩ : ∃ np : Nat, np = K + 1 := ⟨_, rfl⟩
  have u1 : IntKind.i64.wrap ((W : Int) + 1) = (n : Int) := by rw [w64 _ (by omega) (by omega)]; omega
  have u2 : (K : Int) + 3 = (na : Int) := by omega
  have u3 : (K : Int) + 1 = (np : Int) := by omega
  rw [u2, u3] at en
  obtain ⟨h0, e0, H0⟩ := new_iso (k + 29998) n na np 1 (by omega) (by omega) (by omega) (by omega) (by omega) (by omega)
  have z0 : ((1 : Nat) : Int) = 1 := rfl
  rw [z0] at e0
  have e0' : evF cm (k + 29999) 8 [.i n, .i na, .i np, .i 1] [] 0 = some (.tup [.p 3 0 0, .i 0], h0) := e0
  have e0p : evP (evF cm (k + 29999)) 8 [.i n, .i na, .i np, .i 1] = none := by
    unfold evP; rw [e0']; rfl
  have H1 := mem_shift H0 [⟨0, [.i K, S1, .i W, S2]⟩]
  have own0 : ¬ own (AM.new n na np 1) (fun τ => [(⟨0, [.i K, S1, .i W, S2]⟩ : Row)].length + rowN τ) 0 := fun hh => by have := new_own H0 [(⟨0, [.i K, S1, .i W, S2]⟩ : Row)] 0 hh; simp at this
  have rpp : ([(⟨0, [.i K, S1, .i W, S2]⟩ : Row)] ++ shR [(⟨0, [.i K, S1, .i W, S2]⟩ : Row)].length h0)[0]? = some ⟨0, [.i K, S1, .i W, S2]⟩ := rfl
  generalize hgg : [(⟨0, [.i K, S1, .i W, S2]⟩ : Row)] ++ shR [(⟨0, [.i K, S1, .i W, S2]⟩ : Row)].length h0 = g1 at H1 rpp
  have hg' : (⟨0, [.i K, S1, .i W, S2]⟩ : Row) :: shR 1 h0 = g1 := hgg
  have gl : 0 < g1.length := by rw [← hg']; simp
  have rz : ∀ x, rowOf (g1 ++ x) 0 0 = some [.i K, S1, .i W, S2] := fun x => by rw [rowOf_app_lt gl]; exact rowOf_at rpp
  have rg : rowOf g1 0 0 = some [.i K, S1, .i W, S2] := rowOf_at rpp
  have zz : repC [.v (.pointer none), .i 0, .i 0, .b false] W = cl (W * 4) zc := repC_cl (.v (.pointer none)) (.i 0) (.i 0) (.b false) W
  have nn1 : W ≤ 9223372036854775807 := by omega
  have nn2 : W * 32 ≤ 140737488355328 := by omega
  have nn3 : (W : Int) ≤ 9223372036854775807 := by omega
  have nn4 : (0 : Int) ≤ (W : Int) := by omega
  have hl1 : ∀ x : Row, (g1 ++ [x]).length = g1.length + 1 := fun x => by simp
  have hl2 : ∀ x y : Row, (g1 ++ [x, y]).length = g1.length + 2 := fun x y => by simp
  have hTk : ∀ f, f < l.length → 0 < tkF l f ∧ tkF l f ≤ 4 := hg
  have hs := schF_le W p
  obtain ⟨N, hN, hlt, hdn, hnc, hall⟩ := ring_order (K := K) (F := l.length) (W := W) (Tk := tkF l) (sch := schF W p) (P := p.length) (by omega) (by omega) (by omega) (by omega) (fun f h => (hTk f h).1) (fun f h => (hTk f h).2) hs (fun i hi => by unfold schF; rw [if_neg (by omega)])
  have R0 := run0 (S1 := S1) (S2 := S2) (K := K) (W := W) (l := l) (p := p) (by rw [hn, hna, hnp] at H1; exact H1) rpp (by rw [hn, hna, hnp] at own0; exact own0) gl
  have key0 : ∀ s I, iter (evCode (evF cm (k + 29999)) (k + 29999) 0 c3b0) (cleanN fgM) (k + 29999) s = I → SMn S1 S2 K W l p (g1.length + 2) 4 0 s → ∃ s', I = some (.exit 2, s') ∧ SMn S1 S2 K W l p (g1.length + 2) 4 N s' := by
    intro s I hI hs
    obtain ⟨s', h1, h2⟩ := iter_count (S := SMn S1 S2 K W l p (g1.length + 2) 4) (fun i s hi hs => run_round2 (k + 29999) (by omega) (by omega) (by omega) (by omega) hTk hS1 z1 hS2 (by omega) i s (by omega) (hlt i hi) hs) (fun s hs => run_last2 (k + 29999) hS1 hS2 (by omega) N s hN hdn hs) N 0 s (k + 29999) (by omega) (by omega) hs
    exact ⟨s', hI.symm.trans h1, h2⟩
  rw [tl196 hT]
  have rz1 := rowEnd
  simp -implicitDefEqProofs only [t1, t3, s1, s2, a1, a2, c1, c2, u1, en, er, erp, e0', e0p, hg', rg, rz, zz, nn1, nn2, nn3, nn4, app1_0, app2_1, hl1, hl2, List.append_assoc, List.cons_append, List.nil_append, push_cast, Nat.reduceAdd, Nat.reduceMul, Nat.reduceSub, Nat.reduceLT, Nat.reduceLeDiff, Nat.reduceEqDiff, Nat.reducePow, Int.reduceToNat, Int.reduceLT, Int.reduceLE, Int.reduceNeg, Int.reduceEq, Int.reducePow, reduceIte, reduceCtorEq, Int.reduceMul, Int.reduceAdd, Int.reduceSub, Int.reduceMod, Int.reduceDiv, Int.reduceTDiv, Int.reduceTMod]
  generalize hI : iter _ _ _ _ = I
  obtain ⟨s', hI2, T', h', row', gr', C', rfl, R, hT', v1, v6, v10, v11⟩ := key0 _ _ hI ⟨_, _, _, _, _, rfl, R0, rfl, rfl, rfl, rfl, rfl⟩
  subst hI2
  obtain ⟨q0, r, ls, ca, P, nx, q1⟩ := R.rows
  rw [hdn, hnc] at q1
  have hne := R.A.ne0
  have hcl : (grun K l.length W (tkF l) (schF W p) N).M.cl = [] := (hall N).2
  have ec : ∀ k, evF cm (k + 3) 12 [.p 4 0 0] h' 0 = some (.nils, h') := fun k => by
    have := clashes_ok k h' _ row' R.A.mem (by rw [hcl]; simp)
    rw [R.rm, hcl] at this
    rw [this]
    simp [clS, clT]
  have ol := outG_len ca l.length
  rw [tl196 hT']
  simp -implicitDefEqProofs only [v1, v6, v10, v11, q0, q1, s1, ol, ec, ea, eq_self, evX_P, evX_N, push_cast, Nat.reduceAdd, Nat.reduceMul, Nat.reduceSub, Nat.reduceLT, Nat.reduceLeDiff, Nat.reduceEqDiff, Nat.reducePow, Int.reduceToNat, Int.reduceLT, Int.reduceLE, Int.reduceNeg, Int.reduceEq, Int.reducePow, reduceIte, reduceCtorEq, Int.reduceMul, Int.reduceAdd, Int.reduceSub, Int.reduceMod, Int.reduceDiv, Int.reduceTDiv, Int.reduceTMod]
  exact ⟨_, rfl⟩
theorem slU_of {cs : List LV} (h : Is (.sl (.i .u8)) cs) : ∃ l S, cs = [S] ∧ SlU l S := by
  rcases h with rfl | ⟨L, rfl, hlen, hL⟩
  · exact ⟨[], .nils, rfl, rfl, rfl, rfl, rfl, fun i hi => by simp at hi, fun x hx => by simp at hx, rfl⟩
  · clear hlen
    have : ∃ l : List Int, L.flatten = l.map (fun x => LV.v (.int .u8 x)) ∧ L.length = l.length ∧ ∀ x ∈ l, 0 ≤ x ∧ x ≤ 255 := by
      induction L with
      | nil => exact ⟨[], rfl, rfl, fun x hx => by simp at hx⟩
      | cons x L ih =>
        obtain ⟨l, h1, h2, h3⟩ := ih (fun y hy => hL y (by simp [hy]))
        obtain ⟨n, hn, hn1, hn2⟩ := hL x (by simp)
        refine ⟨n :: l, by simp [hn, h1], by simp [h2], fun m hm => ?_⟩
        rcases List.mem_cons.1 hm with rfl | hm
        · exact ⟨hn1, hn2⟩
        · exact h3 m hm
    obtain ⟨l, h1, h2, h3⟩ := this
    refine ⟨l, .im (l.map fun x => LV.v (.int .u8 x)) l.length false, by rw [h1, h2], rfl, rfl, rfl, ?_, fun i hi => ?_, h3, ?_⟩
    · show closedL _ = true
      clear h1 h2 h3
      induction l with
      | nil => rfl
      | cons x l ih => simp [closedL, closed, ih]
    · rw [ixsE_im, if_pos ⟨by omega, by omega⟩, Int.toNat_natCast, Nat.mul_one]
    · have : eqLs (l.map fun x => LV.v (.int .u8 x)) (l.map fun x => LV.v (.int .u8 x)) = true := by
        clear h1 h2 h3
        induction l with
        | nil => rfl
        | cons x l ih => simp [eqLs, eqLV, eqV, ih]
      simp [eqLV, this]
theorem slI_eq {cs : List LV} {S : LV} (h : Is (.sl (.i .i64)) cs) (e : cs = [S]) : eqLV S S = true := by
  rcases h with rfl | ⟨L, rfl, hlen, hL⟩
  · cases e; rfl
  · cases e
    have : eqLs L.flatten L.flatten = true := by
      clear hlen
      induction L with
      | nil => rfl
      | cons x L ih =>
        obtain ⟨n, hn, _, _⟩ := hL x (by simp)
        have := ih fun y hy => hL y (by simp [hy])
        subst hn
        simp [eqLs, eqLV, eqV, this]
    simp [eqLV, this]
end Go.Proofs.Ytcmlnjkbdlakfaa
