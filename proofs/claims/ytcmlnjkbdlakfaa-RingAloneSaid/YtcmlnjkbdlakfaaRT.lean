/- A ring's operations that are done one behind the other (RingAlone), as the evaluator answers: a round. -/
import Derived.Test.YtcmlnjkbdlakfaaRS
set_option linter.unusedSimpArgs false
set_option linter.unusedVariables false
set_option linter.unusedSectionVars false
set_option maxRecDepth 100000
set_option maxHeartbeats 16000000
namespace Go.Proofs.Ytcmlnjkbdlakfaa
open Go
section
variable (K : Nat) (hK : 400 ≤ K) (l : List Int) (S : LV) (hS : SlI l S) (hm : l.length ≤ 40) (k : Nat) (hk : 0 < k ∧ k ≤ 8) (i : Nat) (s : St) (hi : i < l.length) (hs : SAl S k i s)
include hK hS hm hk hi hs
theorem round1 (k1 : bits .and .i64 (l.getD i 0) 3 = 1) :
    ∃ s', evCode (evF cm K) K 0 c4b0 (cleanN fgAl s) = some (.nrm, s') ∧ SAl S k (i + 1) s' := by
  obtain ⟨k0, rfl⟩ : ∃ k, K = k + 400 := ⟨K - 400, by omega⟩
  obtain ⟨T, h, M, row, rr, xr, R, t, L, stp, rfl, I, hT, t1, t5, t7, t9, t10⟩ := hs
  rw [tl220 hT]
  have g1 : (i : Int) < (l.length : Int) := by omega
  have w1 : IntKind.i64.wrap ((i : Int) + 1) = (i : Int) + 1 := w64 _ (by omega) (by omega)
  have hx := hS.ix i (by omega) g1
  rw [Int.toNat_natCast] at hx
  have hr := rd_ints l i hi
  have hr' := rd_ints' l i hi
  generalize l.getD i 0 = v at *
  obtain ⟨n, hn⟩ : ∃ n, v.fdiv 4 = n := ⟨_, rfl⟩
  have hne := I.mem.ne0
  have fin : ∀ T' h' M' row' R' t' L' stp', T'.length = 220 → getT T' 1 = S → getT T' 5 = .p rr 0 0 → getT T' 7 = .p (row .mem) 0 0 → getT T' 9 = .p xr 0 0 → getT T' 10 = .i ((i : Int) + 1) → row' .mem = row .mem → InvR h' M' row' k rr xr R' t' L' stp' (i + 1) → SAl S k (i + 1) (T', h') := by
    intro T' h' M' row' R' t' L' stp' a1 a2 a3 a4 a5 a6 a7 a8
    exact ⟨T', h', M', row', rr, xr, R', t', L', stp', rfl, a8, a1, a2, a3, by rw [a7]; exact a4, a5, by rw [a6]; push_cast; rfl⟩
  have hb := I.hd
  have htb := I.tb
  have e13 := fun k => claim_mk k hne rr
  have hxl := rowOf_lt I.x
  have ra : ∀ x : Row, rowOf (h ++ [x]) xr 0 = rowOf h xr 0 := fun x => rowOf_app_lt hxl
  have rb : ∀ x y : Row, rowOf (h ++ [x] ++ [y]) xr 0 = rowOf h xr 0 := fun x y => by rw [List.append_assoc]; exact rowOf_app_lt hxl
  have rc := rowEnd
  have sc := setEnd
  have qx := I.x
  have hkR := I.sz.k
  have k2 : ¬ (1 : Int) = 0 := by omega
  have hh : ∀ (o' : RO) (R' : RG) (m : Nat) (hm : 3 ≤ m ∧ m ≤ 12) (E : ∃ M', RunsR 1 ⟨M, R, .new .claim 0 0⟩ m ⟨M', R', o'⟩ ∧ RInv M' R' t L stp) (hw : o'.w ≠ 0) (hd : R'.head ≤ i + 1)
      (e20 : ∀ a, evP (evF cm (a + 1)) 20 [.agg (xC k R.head R.dealt t L stp)] = some (.tup [.agg (xC k R'.head R'.dealt t L stp), .i o'.w, .i o'.frame])),
      ∃ s', evCode (evF cm (k0 + 400)) (k0 + 400) 0 c4b0 (cleanN fgAl ([getT T 0, getT T 1, getT T 2, getT T 3, getT T 4, getT T 5, getT T 6, getT T 7, getT T 8, getT T 9, getT T 10, getT T 11, getT T 12, getT T 13, getT T 14, getT T 15, getT T 16, getT T 17, getT T 18, getT T 19, getT T 20, getT T 21, getT T 22, getT T 23, getT T 24, getT T 25, getT T 26, getT T 27, getT T 28, getT T 29, getT T 30, getT T 31, getT T 32, getT T 33, getT T 34, getT T 35, getT T 36, getT T 37, getT T 38, getT T 39, getT T 40, getT T 41, getT T 42, getT T 43, getT T 44, getT T 45, getT T 46, getT T 47, getT T 48, getT T 49, getT T 50, getT T 51, getT T 52, getT T 53, getT T 54, getT T 55, getT T 56, getT T 57, getT T 58, getT T 59, getT T 60, getT T 61, getT T 62, getT T 63, getT T 64, getT T 65, getT T 66, getT T 67, getT T 68, getT T 69, getT T 70, getT T 71, getT T 72, getT T 73, getT T 74, getT T 75, getT T 76, getT T 77, getT T 78, getT T 79, getT T 80, getT T 81, getT T 82, getT T 83, getT T 84, getT T 85, getT T 86, getT T 87, getT T 88, getT T 89, getT T 90, getT T 91, getT T 92, getT T 93, getT T 94, getT T 95, getT T 96, getT T 97, getT T 98, getT T 99, getT T 100, getT T 101, getT T 102, getT T 103, getT T 104, getT T 105, getT T 106, getT T 107, getT T 108, getT T 109, getT T 110, getT T 111, getT T 112, getT T 113, getT T 114, getT T 115, getT T 116, getT T 117, getT T 118, getT T 119, getT T 120, getT T 121, getT T 122, getT T 123, getT T 124, getT T 125, getT T 126, getT T 127, getT T 128, getT T 129, getT T 130, getT T 131, getT T 132, getT T 133, getT T 134, getT T 135, getT T 136, getT T 137, getT T 138, getT T 139, getT T 140, getT T 141, getT T 142, getT T 143, getT T 144, getT T 145, getT T 146, getT T 147, getT T 148, getT T 149, getT T 150, getT T 151, getT T 152, getT T 153, getT T 154, getT T 155, getT T 156, getT T 157, getT T 158, getT T 159, getT T 160, getT T 161, getT T 162, getT T 163, getT T 164, getT T 165, getT T 166, getT T 167, getT T 168, getT T 169, getT T 170, getT T 171, getT T 172, getT T 173, getT T 174, getT T 175, getT T 176, getT T 177, getT T 178, getT T 179, getT T 180, getT T 181, getT T 182, getT T 183, getT T 184, getT T 185, getT T 186, getT T 187, getT T 188, getT T 189, getT T 190, getT T 191, getT T 192, getT T 193, getT T 194, getT T 195, getT T 196, getT T 197, getT T 198, getT T 199, getT T 200, getT T 201, getT T 202, getT T 203, getT T 204, getT T 205, getT T 206, getT T 207, getT T 208, getT T 209, getT T 210, getT T 211, getT T 212, getT T 213, getT T 214, getT T 215, getT T 216, getT T 217, getT T 218, getT T 219], h)) = some (.nrm, s') ∧ SAl S k (i + 1) s' := by
    intro o' R' m hm E hw hd e20
    obtain ⟨h', M', row', er, hrm, ho, J⟩ := clm (k0 + 260) I hk (by omega) hm.2 (by omega) E hw hd
    have ew := fun k => why_ok k o' ho
    have ef := fun k => frame_ok k o' ho
    have jn := J.mem.ne0
    have g3 : ¬ (m : Int) < 3 := by omega
    generalize (m : Int) = mm at *
    have J' := J
    clear J
    simp only [RO.new, RO.cells, opR, xC, fnR, Int.cast_ofNat_Int, Nat.add_assoc, Nat.reduceAdd] at e13 er e20 ew ef qx
    generalize (R'.head : Int) = H1 at *
    generalize (R'.dealt : Int) = D1 at *
    simp -implicitDefEqProofs (maxSteps := 3000000) only [c4b0, fgAl, t1, t5, t7, t9, t10, hS.len, hx, hr, hr', g1, w1, k1, k2, hn, g3, e13, e20, er, ew, ef, ra, rb, rc, sc, qx, evX_P, evX_N, eq_self, push_cast, Nat.reduceAdd, Nat.reduceMul, Nat.reduceSub, Nat.reduceLT, Nat.reduceLeDiff, Nat.reduceEqDiff, Nat.reducePow, Int.reduceToNat, Int.reduceLT, Int.reduceLE, Int.reduceNeg, Int.reduceEq, Int.reducePow, reduceIte, reduceCtorEq, Int.reduceMul, Int.reduceAdd, Int.reduceSub, Int.reduceMod, Int.reduceDiv, Int.reduceTDiv, Int.reduceTMod, iter_s]
    refine ⟨_, rfl, ?_⟩; exact fin _ _ _ _ _ _ _ _ rfl rfl rfl rfl rfl rfl hrm J'
  by_cases hf : (R.head : Int) ≤ t
  · exact hh _ _ _ (by omega) (claim_none 1 I.ri hf) (by cases stp <;> simp) (by omega) (fun a => e20_none hk a hf)
  by_cases hD : (R.dealt : Int) = t
  · exact hh _ _ _ (by omega) (claim_fine 1 I.ri hf hD) (by simp) (by dsimp only; omega) (fun a => e20_fine hk a (by omega) hf hD)
  · exact hh _ _ _ (by omega) (claim_busy 1 I.ri hf hD) (by simp) (by omega) (fun a => e20_busy hk a hf hD)
theorem round2 (k1 : bits .and .i64 (l.getD i 0) 3 = 2) :
    ∃ s', evCode (evF cm K) K 0 c4b0 (cleanN fgAl s) = some (.nrm, s') ∧ SAl S k (i + 1) s' := by
  obtain ⟨k0, rfl⟩ : ∃ k, K = k + 400 := ⟨K - 400, by omega⟩
  obtain ⟨T, h, M, row, rr, xr, R, t, L, stp, rfl, I, hT, t1, t5, t7, t9, t10⟩ := hs
  rw [tl220 hT]
  have g1 : (i : Int) < (l.length : Int) := by omega
  have w1 : IntKind.i64.wrap ((i : Int) + 1) = (i : Int) + 1 := w64 _ (by omega) (by omega)
  have hx := hS.ix i (by omega) g1
  rw [Int.toNat_natCast] at hx
  have hr := rd_ints l i hi
  have hr' := rd_ints' l i hi
  generalize l.getD i 0 = v at *
  obtain ⟨n, hn⟩ : ∃ n, v.fdiv 4 = n := ⟨_, rfl⟩
  have hne := I.mem.ne0
  have fin : ∀ T' h' M' row' R' t' L' stp', T'.length = 220 → getT T' 1 = S → getT T' 5 = .p rr 0 0 → getT T' 7 = .p (row .mem) 0 0 → getT T' 9 = .p xr 0 0 → getT T' 10 = .i ((i : Int) + 1) → row' .mem = row .mem → InvR h' M' row' k rr xr R' t' L' stp' (i + 1) → SAl S k (i + 1) (T', h') := by
    intro T' h' M' row' R' t' L' stp' a1 a2 a3 a4 a5 a6 a7 a8
    exact ⟨T', h', M', row', rr, xr, R', t', L', stp', rfl, a8, a1, a2, a3, by rw [a7]; exact a4, a5, by rw [a6]; push_cast; rfl⟩
  have k2 : ¬ (2 : Int) = 0 := by omega
  have k3 : ¬ (2 : Int) = 1 := by omega
  by_cases n1 : n < -100
  · simp -implicitDefEqProofs (maxSteps := 3000000) only [c4b0, fgAl, t1, t5, t7, t9, t10, hS.len, hx, hr, hr', g1, w1, k1, k2, k3, hn, n1, eq_self, push_cast, Nat.reduceAdd, Nat.reduceMul, Nat.reduceSub, Nat.reduceLT, Nat.reduceLeDiff, Nat.reduceEqDiff, Nat.reducePow, Int.reduceToNat, Int.reduceLT, Int.reduceLE, Int.reduceNeg, Int.reduceEq, Int.reducePow, reduceIte, reduceCtorEq, Int.reduceMul, Int.reduceAdd, Int.reduceSub, Int.reduceMod, Int.reduceDiv, Int.reduceTDiv, Int.reduceTMod, iter_s]
    refine ⟨_, rfl, ?_⟩; exact fin _ _ _ _ _ _ _ _ rfl rfl rfl rfl rfl rfl rfl I.mono
  by_cases n2 : 100 < n
  · simp -implicitDefEqProofs (maxSteps := 3000000) only [c4b0, fgAl, t1, t5, t7, t9, t10, hS.len, hx, hr, hr', g1, w1, k1, k2, k3, hn, n1, n2, eq_self, push_cast, Nat.reduceAdd, Nat.reduceMul, Nat.reduceSub, Nat.reduceLT, Nat.reduceLeDiff, Nat.reduceEqDiff, Nat.reducePow, Int.reduceToNat, Int.reduceLT, Int.reduceLE, Int.reduceNeg, Int.reduceEq, Int.reducePow, reduceIte, reduceCtorEq, Int.reduceMul, Int.reduceAdd, Int.reduceSub, Int.reduceMod, Int.reduceDiv, Int.reduceTDiv, Int.reduceTMod, iter_s]
    refine ⟨_, rfl, ?_⟩; exact fin _ _ _ _ _ _ _ _ rfl rfl rfl rfl rfl rfl rfl I.mono
  have hb := I.hd
  have htb := I.tb
  have e13 := fun k => finish_mk k hne rr n
  have hxl := rowOf_lt I.x
  have ra : ∀ x : Row, rowOf (h ++ [x]) xr 0 = rowOf h xr 0 := fun x => rowOf_app_lt hxl
  have rb : ∀ x y : Row, rowOf (h ++ [x] ++ [y]) xr 0 = rowOf h xr 0 := fun x y => by rw [List.append_assoc]; exact rowOf_app_lt hxl
  have rc := rowEnd
  have sc := setEnd
  have qx := I.x
  have hkR := I.sz.k
  by_cases hf : L (sl k n) = 1
  · have e22 := fun a => e22_done (K := k) hk (H := R.head) (D := R.dealt) (T := t) (L := L) (stp := stp) a n (by omega) hf
    obtain ⟨h', M', row', o', er, hrm, ho, hw, J⟩ := fin_done (k0 + 260) I hk (by omega) n (by omega) (by rw [hkR]; exact hf)
    have ew := fun k => why_ok k o' ho
    rw [hw] at ew
    have jn := J.mem.ne0
    have w6 : IntKind.i64.wrap ((3 : Int) - 1) = 2 := rfl
    rw [hkR] at er J
    have J' := J
    clear J
    simp only [RO.new, RO.cells, opR, xC, fnR, Int.cast_ofNat_Int, Nat.add_assoc, Nat.reduceAdd] at e13 er e22 ew qx
    simp -implicitDefEqProofs (maxSteps := 3000000) only [c4b0, fgAl, t1, t5, t7, t9, t10, hS.len, hx, hr, hr', g1, w1, k1, k2, k3, hn, n1, n2, e13, e22, er, ew, w6, ra, rb, rc, sc, qx, evX_P, evX_N, eq_self, push_cast, Nat.reduceAdd, Nat.reduceMul, Nat.reduceSub, Nat.reduceLT, Nat.reduceLeDiff, Nat.reduceEqDiff, Nat.reducePow, Int.reduceToNat, Int.reduceLT, Int.reduceLE, Int.reduceNeg, Int.reduceEq, Int.reducePow, reduceIte, reduceCtorEq, Int.reduceMul, Int.reduceAdd, Int.reduceSub, Int.reduceMod, Int.reduceDiv, Int.reduceTDiv, Int.reduceTMod, iter_s]
    refine ⟨_, rfl, ?_⟩; exact fin _ _ _ _ _ _ _ _ rfl rfl rfl rfl rfl rfl hrm J'
  · have hf' : ¬ L (sl k n) - 1 = 0 := by omega
    have e22 := fun a => e22_on (K := k) hk (H := R.head) (D := R.dealt) (T := t) (L := L) (stp := stp) a n (by omega) (fun j => by have := I.lb j; omega) hf'
    obtain ⟨h', M', row', o', er, hrm, ho, hw, J⟩ := fin_on (k0 + 260) I hk (by omega) n (by omega) (by rw [hkR]; exact hf)
    have ew := fun k => why_ok k o' ho
    rw [hw] at ew
    have jn := J.mem.ne0
    have w6 : IntKind.i64.wrap ((3 : Int) - 2) = 1 := rfl
    rw [hkR] at er J
    have J' := J
    clear J
    simp only [RO.new, RO.cells, opR, xC, fnR, Int.cast_ofNat_Int, Nat.add_assoc, Nat.reduceAdd] at e13 er e22 ew qx
    simp -implicitDefEqProofs (maxSteps := 3000000) only [c4b0, fgAl, t1, t5, t7, t9, t10, hS.len, hx, hr, hr', g1, w1, k1, k2, k3, hn, n1, n2, e13, e22, er, ew, w6, ra, rb, rc, sc, qx, evX_P, evX_N, eq_self, push_cast, Nat.reduceAdd, Nat.reduceMul, Nat.reduceSub, Nat.reduceLT, Nat.reduceLeDiff, Nat.reduceEqDiff, Nat.reducePow, Int.reduceToNat, Int.reduceLT, Int.reduceLE, Int.reduceNeg, Int.reduceEq, Int.reducePow, reduceIte, reduceCtorEq, Int.reduceMul, Int.reduceAdd, Int.reduceSub, Int.reduceMod, Int.reduceDiv, Int.reduceTDiv, Int.reduceTMod, iter_s]
    refine ⟨_, rfl, ?_⟩; exact fin _ _ _ _ _ _ _ _ rfl rfl rfl rfl rfl rfl hrm J'
theorem round3 (k1 : bits .and .i64 (l.getD i 0) 3 = 3) :
    ∃ s', evCode (evF cm K) K 0 c4b0 (cleanN fgAl s) = some (.nrm, s') ∧ SAl S k (i + 1) s' := by
  obtain ⟨k0, rfl⟩ : ∃ k, K = k + 400 := ⟨K - 400, by omega⟩
  obtain ⟨T, h, M, row, rr, xr, R, t, L, stp, rfl, I, hT, t1, t5, t7, t9, t10⟩ := hs
  rw [tl220 hT]
  have g1 : (i : Int) < (l.length : Int) := by omega
  have w1 : IntKind.i64.wrap ((i : Int) + 1) = (i : Int) + 1 := w64 _ (by omega) (by omega)
  have hx := hS.ix i (by omega) g1
  rw [Int.toNat_natCast] at hx
  have hr := rd_ints l i hi
  have hr' := rd_ints' l i hi
  generalize l.getD i 0 = v at *
  obtain ⟨n, hn⟩ : ∃ n, v.fdiv 4 = n := ⟨_, rfl⟩
  have hne := I.mem.ne0
  have fin : ∀ T' h' M' row' R' t' L' stp', T'.length = 220 → getT T' 1 = S → getT T' 5 = .p rr 0 0 → getT T' 7 = .p (row .mem) 0 0 → getT T' 9 = .p xr 0 0 → getT T' 10 = .i ((i : Int) + 1) → row' .mem = row .mem → InvR h' M' row' k rr xr R' t' L' stp' (i + 1) → SAl S k (i + 1) (T', h') := by
    intro T' h' M' row' R' t' L' stp' a1 a2 a3 a4 a5 a6 a7 a8
    exact ⟨T', h', M', row', rr, xr, R', t', L', stp', rfl, a8, a1, a2, a3, by rw [a7]; exact a4, a5, by rw [a6]; push_cast; rfl⟩
  have k2 : ¬ (3 : Int) = 0 := by omega
  have k3 : ¬ (3 : Int) = 1 := by omega
  have k4 : ¬ (3 : Int) = 2 := by omega
  have hb := I.hd
  have htb := I.tb
  have hxl := rowOf_lt I.x
  have ra : ∀ x : Row, rowOf (h ++ [x]) xr 0 = rowOf h xr 0 := fun x => rowOf_app_lt hxl
  have rb : ∀ x y : Row, rowOf (h ++ [x] ++ [y]) xr 0 = rowOf h xr 0 := fun x y => by rw [List.append_assoc]; exact rowOf_app_lt hxl
  have rc := rowEnd
  have sc := setEnd
  have qx := I.x
  have hkR := I.sz.k
  by_cases n1 : n.tmod 4 = 0
  · have hne2 : (h.set xr ⟨0, xC k R.head R.dealt t L true⟩).isEmpty = false := by
      cases h with
      | nil => simp at hne
      | cons a b => cases xr <;> rfl
    have e24 := fun a => stop_mk a hne2 rr
    obtain ⟨h', M', row', er, hrm, J⟩ := stp1 (k0 + 260) I hk (by omega)
    have jn := J.mem.ne0
    simp only [RO.new, RO.cells, opR, xC, fnR, Int.cast_ofNat_Int, Nat.add_assoc, Nat.reduceAdd] at e24 er qx
    simp -implicitDefEqProofs (maxSteps := 3000000) only [c4b0, fgAl, t1, t5, t7, t9, t10, hS.len, hx, hr, hr', g1, w1, k1, k2, k3, hn, k4, n1, e24, er, ra, rb, rc, sc, qx, evX_P, evX_N, eq_self, push_cast, Nat.reduceAdd, Nat.reduceMul, Nat.reduceSub, Nat.reduceLT, Nat.reduceLeDiff, Nat.reduceEqDiff, Nat.reducePow, Int.reduceToNat, Int.reduceLT, Int.reduceLE, Int.reduceNeg, Int.reduceEq, Int.reducePow, reduceIte, reduceCtorEq, Int.reduceMul, Int.reduceAdd, Int.reduceSub, Int.reduceMod, Int.reduceDiv, Int.reduceTDiv, Int.reduceTMod, iter_s]
    refine ⟨_, rfl, ?_⟩; exact fin _ _ _ _ _ _ _ _ rfl rfl rfl rfl rfl rfl hrm J
  · have e23 := fun a => await_mk a hne rr t
    obtain ⟨h', M', row', o', er, hrm, ho, hw, J⟩ := awt (k0 + 260) I hk (by omega)
    have ew := fun k => why_ok k o' ho
    rw [hw] at ew
    have jn := J.mem.ne0
    simp only [RO.new, RO.cells, opR, xC, fnR, Int.cast_ofNat_Int, Nat.add_assoc, Nat.reduceAdd] at e23 er ew qx
    simp -implicitDefEqProofs (maxSteps := 3000000) only [c4b0, fgAl, t1, t5, t7, t9, t10, hS.len, hx, hr, hr', g1, w1, k1, k2, k3, hn, k4, n1, e23, er, ew, ra, rb, rc, sc, qx, evX_P, evX_N, eq_self, push_cast, Nat.reduceAdd, Nat.reduceMul, Nat.reduceSub, Nat.reduceLT, Nat.reduceLeDiff, Nat.reduceEqDiff, Nat.reducePow, Int.reduceToNat, Int.reduceLT, Int.reduceLE, Int.reduceNeg, Int.reduceEq, Int.reducePow, reduceIte, reduceCtorEq, Int.reduceMul, Int.reduceAdd, Int.reduceSub, Int.reduceMod, Int.reduceDiv, Int.reduceTDiv, Int.reduceTMod, iter_s]
    refine ⟨_, rfl, ?_⟩; exact fin _ _ _ _ _ _ _ _ rfl rfl rfl rfl rfl rfl hrm J
end
end Go.Proofs.Ytcmlnjkbdlakfaa
