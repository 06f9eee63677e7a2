/- A ring's operations that are done one behind the other (RingAlone), as the evaluator answers: a round. -/
import Derived.Test.YtcmlnjkbdlakfaaRN
set_option linter.unusedSimpArgs false
set_option linter.unusedVariables false
set_option linter.unusedSectionVars false
set_option maxRecDepth 100000
set_option maxHeartbeats 16000000
namespace Go.Proofs.Ytcmlnjkbdlakfaa
open Go
theorem InvR.mono {h : List Row} {M : AM} {row : Tg → Nat} {k rr xr : Nat} {R : RG} {T : Int} {L : Nat → Int} {stp : Bool} {i : Nat} (I : InvR h M row k rr xr R T L stp i) : InvR h M row k rr xr R T L stp (i + 1) :=
  ⟨I.mem, I.sz, I.ri, by have := I.ops; push_cast; omega, by have := I.cl; omega, by have := I.hd; omega, I.tb, fun j => by have := I.lb j; push_cast; omega, I.rg, I.nr, I.x, I.nx, I.ne⟩
theorem rowEnd (Y : List Row) (cs : List LV) : rowOf (Y ++ [⟨0, cs⟩]) Y.length 0 = some cs := rowOf_app_eq
theorem setEnd (Y : List Row) (a x : Row) : (Y ++ [a]).set Y.length x = Y ++ [x] := app1_0
theorem xC_eq (K H D T : Int) (L : Nat → Int) (stp : Bool) : eqLs (xC K H D T L stp) (xC K H D T L stp) = true := by simp [xC, eqLs, eqLV, eqV]
section
variable (K : Nat) (hK : 400 ≤ K) (l : List Int) (S : LV) (hS : SlI l S) (hm : l.length ≤ 40) (k : Nat) (hk : 0 < k ∧ k ≤ 8) (i : Nat) (s : St) (hi : i < l.length) (hs : SAl S k i s)
include hK hS hm hk hi hs
theorem round0 (k1 : bits .and .i64 (l.getD i 0) 3 = 0) :
    ∃ s', evCode (evF cm K) K 0 c4b0 (cleanN fgAl s) = some (.nrm, s') ∧ SAl S k (i + 1) s' := by
  obtain ⟨k0, rfl⟩ : ∃ k, K = k + 400 := ⟨K - 400, by omega⟩
  obtain ⟨T, h, M, row, rr, xr, R, t, L, stp, rfl, I, hT, t1, t5, t7, t9, t10⟩ := hs
  rw [tl220 hT]
  have g1 : (i : Int) < (l.length : Int) := by omega
  have w1 : IntKind.i64.wrap ((i : Int) + 1) = (i : Int) + 1 := w64 _ (by omega) (by omega)
  have hx := hS.ix i (by omega) g1
  rw [Int.toNat_natCast] at hx
  have hr := rd_ints l i hi
  have hr' := rd_ints' l i hi
  generalize l.getD i 0 = v at *
  obtain ⟨n, hn⟩ : ∃ n, v.fdiv 4 = n := ⟨_, rfl⟩
  have hne := I.mem.ne0
  have fin : ∀ T' h' M' row' R' t' L' stp', T'.length = 220 → getT T' 1 = S → getT T' 5 = .p rr 0 0 → getT T' 7 = .p (row .mem) 0 0 → getT T' 9 = .p xr 0 0 → getT T' 10 = .i ((i : Int) + 1) → row' .mem = row .mem → InvR h' M' row' k rr xr R' t' L' stp' (i + 1) → SAl S k (i + 1) (T', h') := by
    intro T' h' M' row' R' t' L' stp' a1 a2 a3 a4 a5 a6 a7 a8
    exact ⟨T', h', M', row', rr, xr, R', t', L', stp', rfl, a8, a1, a2, a3, by rw [a7]; exact a4, a5, by rw [a6]; push_cast; rfl⟩
  by_cases n1 : n < 1
  · simp -implicitDefEqProofs (maxSteps := 3000000) only [c4b0, fgAl, t1, t5, t7, t9, t10, hS.len, hx, hr, hr', g1, w1, k1, hn, n1, eq_self, push_cast, Nat.reduceAdd, Nat.reduceMul, Nat.reduceSub, Nat.reduceLT, Nat.reduceLeDiff, Nat.reduceEqDiff, Nat.reducePow, Int.reduceToNat, Int.reduceLT, Int.reduceLE, Int.reduceNeg, Int.reduceEq, Int.reducePow, reduceIte, reduceCtorEq, Int.reduceMul, Int.reduceAdd, Int.reduceSub, Int.reduceMod, Int.reduceDiv, Int.reduceTDiv, Int.reduceTMod, iter_s]
    refine ⟨_, rfl, ?_⟩; exact fin _ _ _ _ _ _ _ _ rfl rfl rfl rfl rfl rfl rfl I.mono
  by_cases n2 : 100 < n
  · simp -implicitDefEqProofs (maxSteps := 3000000) only [c4b0, fgAl, t1, t5, t7, t9, t10, hS.len, hx, hr, hr', g1, w1, k1, hn, n1, n2, eq_self, push_cast, Nat.reduceAdd, Nat.reduceMul, Nat.reduceSub, Nat.reduceLT, Nat.reduceLeDiff, Nat.reduceEqDiff, Nat.reducePow, Int.reduceToNat, Int.reduceLT, Int.reduceLE, Int.reduceNeg, Int.reduceEq, Int.reducePow, reduceIte, reduceCtorEq, Int.reduceMul, Int.reduceAdd, Int.reduceSub, Int.reduceMod, Int.reduceDiv, Int.reduceTDiv, Int.reduceTMod, iter_s]
    refine ⟨_, rfl, ?_⟩; exact fin _ _ _ _ _ _ _ _ rfl rfl rfl rfl rfl rfl rfl I.mono
  have hb := I.hd
  have htb := I.tb
  have e13 := fun k => publish_mk k hne rr n
  have hxl := rowOf_lt I.x
  have ra : ∀ x : Row, rowOf (h ++ [x]) xr 0 = rowOf h xr 0 := fun x => rowOf_app_lt hxl
  have rb : ∀ x y : Row, rowOf (h ++ [x] ++ [y]) xr 0 = rowOf h xr 0 := fun x y => by rw [List.append_assoc]; exact rowOf_app_lt hxl
  have rc := rowEnd
  have sc := setEnd
  have qx := I.x
  have hkR := I.sz.k
  by_cases hf : (R.k : Int) ≤ (R.head : Int) - t
  · have e14 := fun a => e14_full (K := k) hk (H := R.head) (D := R.dealt) (T := t) (L := L) (stp := stp) a n (by omega) (by omega) (by rw [← hkR]; exact hf)
    obtain ⟨h', M', row', er, hrm, ho, J⟩ := pub_full (k0 + 260) I hk (by omega) n (by omega) hf
    have ew := fun k => why_ok k (RO.new .publish 0 n) ho
    have ef := fun k => frame_ok k (RO.new .publish 0 n) ho
    have jn := J.mem.ne0
    have jx := J.x
    simp only [RO.new, RO.cells, opR, xC, fnR, Int.cast_ofNat_Int, Nat.add_assoc, Nat.reduceAdd] at e13 er e14 ew ef qx jx
    simp -implicitDefEqProofs (maxSteps := 3000000) only [c4b0, fgAl, t1, t5, t7, t9, t10, hS.len, hx, hr, hr', g1, w1, k1, hn, n1, n2, e13, e14, er, ew, ef, ra, rb, rc, sc, qx, jx, evX_P, evX_N, eq_self, push_cast, Nat.reduceAdd, Nat.reduceMul, Nat.reduceSub, Nat.reduceLT, Nat.reduceLeDiff, Nat.reduceEqDiff, Nat.reducePow, Int.reduceToNat, Int.reduceLT, Int.reduceLE, Int.reduceNeg, Int.reduceEq, Int.reducePow, reduceIte, reduceCtorEq, Int.reduceMul, Int.reduceAdd, Int.reduceSub, Int.reduceMod, Int.reduceDiv, Int.reduceTDiv, Int.reduceTMod, iter_s]
    refine ⟨_, rfl, ?_⟩; exact fin _ _ _ _ _ _ _ _ rfl rfl rfl rfl rfl rfl hrm J
  · have e14 := fun a => e14_fine (K := k) hk (H := R.head) (D := R.dealt) (T := t) (L := L) (stp := stp) a n (by omega) (by omega) (by rw [← hkR]; exact hf)
    obtain ⟨h', M', row', o', er, hrm, ho, hfr, J⟩ := pub_fine (k0 + 260) I hk (by omega) n (by omega) hf
    have ef := fun k => frame_ok k o' ho
    rw [hfr] at ef
    have eh := fun k => head_ok k { R with head := R.head + 1 } J.rg
    have jn := J.mem.ne0
    have jx := J.x
    have w5 : IntKind.i64.wrap (((R.head + 1 : Nat) : Int) - 1) = (R.head : Int) := by rw [w64 _ (by omega) (by omega)]; omega
    rw [hkR] at er jx J
    have rd : ∀ (x y : Row) cs, rowOf ((h ++ [x] ++ [y]).set xr ⟨0, cs⟩) xr 0 = some cs := fun x y cs => rowOf_set_eq (by simp; omega)
    have tk : ∀ (x y : Row), turnK ((h ++ [x] ++ [y]).set xr ⟨0, xC k (R.head + 1 : Nat) R.dealt t (upd L (sl k R.head) n) stp⟩) h' xr = true := fun x y => turnK_of (rd x y _) jx (xC_eq _ _ _ _ _ _)
    have tk2 : turnK h' h' xr = true := turnK_of jx jx (xC_eq _ _ _ _ _ _)
    have J' := J
    clear J
    simp only [RO.new, RO.cells, opR, xC, fnR, Int.cast_ofNat_Int, Nat.add_assoc, Nat.reduceAdd] at e13 er e14 ef eh qx jx tk
    generalize ((R.head + 1 : Nat) : Int) = H1 at *
    simp -implicitDefEqProofs (maxSteps := 3000000) only [c4b0, fgAl, t1, t5, t7, t9, t10, hS.len, hx, hr, hr', g1, w1, k1, hn, n1, n2, e13, e14, er, ef, eh, w5, rd, tk, tk2, ra, rb, rc, sc, qx, jx, evX_P, evX_N, eq_self, push_cast, Nat.reduceAdd, Nat.reduceMul, Nat.reduceSub, Nat.reduceLT, Nat.reduceLeDiff, Nat.reduceEqDiff, Nat.reducePow, Int.reduceToNat, Int.reduceLT, Int.reduceLE, Int.reduceNeg, Int.reduceEq, Int.reducePow, reduceIte, reduceCtorEq, Int.reduceMul, Int.reduceAdd, Int.reduceSub, Int.reduceMod, Int.reduceDiv, Int.reduceTDiv, Int.reduceTMod, iter_s]
    refine ⟨_, rfl, ?_⟩; exact fin _ _ _ _ _ _ _ _ rfl rfl rfl rfl rfl rfl hrm J'
end
end Go.Proofs.Ytcmlnjkbdlakfaa
