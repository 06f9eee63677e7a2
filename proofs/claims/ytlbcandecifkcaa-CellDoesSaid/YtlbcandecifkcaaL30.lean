/- Who holds a lock while it accesses a cell clashes with nobody who does so, too (CellLocks), as the evaluator answers. -/
import Derived.Test.YtlbcandecifkcaaMN
import Derived.Test.YtlbcandecifkcaaR30
import Derived.Test.YtlbcandecifkcaaA30
set_option linter.unusedSimpArgs false
set_option linter.unusedVariables false
set_option maxRecDepth 100000
set_option maxHeartbeats 16000000
namespace Go.Proofs.Ytlbcandecifkcaa
open Go
theorem and3 (x : Int) : bits .and .i64 x 3 = x % 4 := by
  show IntKind.i64.wrap ((BitVec.ofInt 64 x &&& BitVec.ofInt 64 3).toNat : Int) = _
  rw [BitVec.toNat_and, BitVec.toNat_ofInt, show (BitVec.ofInt 64 3).toNat = 2 ^ 2 - 1 from rfl, Nat.and_two_pow_sub_one_eq_mod, IntKind.wrap_i64]
  omega
theorem drop5 (l : List Int) (k : Nat) (h : k + 5 ≤ l.length) : ∃ rest, (l.map LV.i).drop k = .i (l.getD k 0) :: .i (l.getD (k + 1) 0) :: .i (l.getD (k + 2) 0) :: .i (l.getD (k + 3) 0) :: .i (l.getD (k + 4) 0) :: rest := by
  obtain ⟨rest, hr⟩ := dropE l 5 k h
  exact ⟨rest, hr⟩
theorem tl98 {T : List LV} (h : T.length = 98) : T = [getT T 0, getT T 1, getT T 2, getT T 3, getT T 4, getT T 5, getT T 6, getT T 7, getT T 8, getT T 9, getT T 10, getT T 11, getT T 12, getT T 13, getT T 14, getT T 15, getT T 16, getT T 17, getT T 18, getT T 19, getT T 20, getT T 21, getT T 22, getT T 23, getT T 24, getT T 25, getT T 26, getT T 27, getT T 28, getT T 29, getT T 30, getT T 31, getT T 32, getT T 33, getT T 34, getT T 35, getT T 36, getT T 37, getT T 38, getT T 39, getT T 40, getT T 41, getT T 42, getT T 43, getT T 44, getT T 45, getT T 46, getT T 47, getT T 48, getT T 49, getT T 50, getT T 51, getT T 52, getT T 53, getT T 54, getT T 55, getT T 56, getT T 57, getT T 58, getT T 59, getT T 60, getT T 61, getT T 62, getT T 63, getT T 64, getT T 65, getT T 66, getT T 67, getT T 68, getT T 69, getT T 70, getT T 71, getT T 72, getT T 73, getT T 74, getT T 75, getT T 76, getT T 77, getT T 78, getT T 79, getT T 80, getT T 81, getT T 82, getT T 83, getT T 84, getT T 85, getT T 86, getT T 87, getT T 88, getT T 89, getT T 90, getT T 91, getT T 92, getT T 93, getT T 94, getT T 95, getT T 96, getT T 97] := tlT h
def fgL : List Nat := [30, 29, 2, 90, 89, 88, 87, 86, 85, 84, 83, 82, 81, 80, 79, 78, 77, 76, 75, 74, 73, 72, 71, 70, 69, 68, 67, 66, 65, 64, 63, 62, 61, 60, 59, 58, 57, 56, 55, 49, 54, 53, 52, 51, 50, 48, 47, 46, 45, 44, 43, 42, 41, 37, 40, 39, 38, 36, 35, 34, 33, 32, 31, 28, 27, 26, 25]
def SL (S : LV) (i : Nat) (s : St) : Prop := ∃ T h M row, s = (T, h) ∧ MemAt h M row ∧ Lk M ∧ M.ops ≤ 4 * i ∧ T.length = 98 ∧ getT T 0 = S ∧ getT T 3 = .p (row .mem) 0 0 ∧ getT T 5 = .i i
theorem locks_round (K : Nat) (hK : 200 ≤ K) (n : Nat) (l : List Int) (S : LV) (hS : SlE 5 n l S) (hn : n ≤ 60) (i : Nat) (s : St) (hi : i < n) (hs : SL S i s) :
    ∃ s', evCode (evF cm K) K 0 c3b0 (cleanN fgL s) = some (.nrm, s') ∧ SL S (i + 1) s' := by
  obtain ⟨k, rfl⟩ : ∃ k, K = k + 200 := ⟨K - 200, by omega⟩
  obtain ⟨T, h, M, row, rfl, H, hM, ho, hT, t0, t3, t5⟩ := hs
  rw [tl98 hT]
  have g1 : (i : Int) < (n : Int) := by omega
  have w1 : IntKind.i64.wrap ((i : Int) + 1) = (i : Int) + 1 := w64 _ (by omega) (by omega)
  have hx := hS.ix i hi
  obtain ⟨rest, hd⟩ := drop5 l (i * 5) (by have := hS.sz; omega)
  rw [hd] at hx
  generalize l.getD (i * 5) 0 = a0 at *
  generalize l.getD (i * 5 + 1) 0 = a1 at *
  obtain ⟨t, ht⟩ : ∃ t : Nat, a1 % 4 = t := ⟨(a1 % 4).toNat, by omega⟩
  obtain ⟨u, hu⟩ : ∃ u : Nat, ((t : Int) + 1) % 4 = u := ⟨(((t : Int) + 1) % 4).toNat, by omega⟩
  have ht4 : t < 4 := by omega
  have hu4 : u < 4 := by omega
  have hut : u ≠ t := by omega
  have b1 : bits .and .i64 a1 3 = t := by rw [and3]; exact ht
  have b2 : bits .and .i64 ((t : Int) + 1) 3 = u := by rw [and3]; exact hu
  have w2 : IntKind.i64.wrap ((t : Int) + 1) = (t : Int) + 1 := w64 _ (by omega) (by omega)
  obtain ⟨z1, z2, z3⟩ := hM.sz
  obtain ⟨m1, m2, m3⟩ := lk_mid M hM t u
  -- the four operations
  obtain ⟨h1, e1, H1, F1⟩ := lock_ok (k + 90) h M row H t 0 (by rw [hM.n]; exact ht4) (by omega) (by omega)
  rw [hM.lo] at e1
  have o1 : (M.lock t 0).ops = M.ops + 1 := by unfold AM.lock; rw [if_pos hM.lo]; rfl
  have n1 : (M.lock t 0).n = 4 ∧ (M.lock t 0).nl = 1 ∧ (M.lock t 0).np = 1 ∧ (M.lock t 0).cl = [] := by unfold AM.lock; rw [if_pos hM.lo]; exact ⟨hM.n, z3, z2, hM.cl⟩
  obtain ⟨h2, e2, H2, F2⟩ := lock_ok (k + 90) h1 (M.lock t 0) row H1 u 0 (by rw [n1.1]; exact hu4) (by rw [n1.2.1]; omega) (by omega)
  rw [m1] at e2
  have d2 : decide ((t : Int) = -1) = false := decide_eq_false (by omega)
  have d1 : decide ((-1 : Int) = -1) = true := by simp
  rw [d2] at e2
  rw [d1] at e1
  rw [m2] at H2
  have n2 : ((M.lock t 0).tick u).n = 4 ∧ ((M.lock t 0).tick u).nl = 1 ∧ ((M.lock t 0).tick u).np = 1 ∧ ((M.lock t 0).tick u).cl = [] ∧ ((M.lock t 0).tick u).ops = M.ops + 2 ∧ ((M.lock t 0).tick u).lo 0 = t := by
    refine ⟨n1.1, n1.2.1, n1.2.2.1, n1.2.2.2, ?_, m1⟩
    show (M.lock t 0).ops + 1 = _
    omega
  have e3 := unlock_err (k + 195) h2 _ row H2 u 0 (.inr (.inr (.inr (.inr (by show ((M.lock t 0).tick u).lo 0 ≠ u; rw [n2.2.2.2.2.2]; omega)))))
  have hw : ∃ w : Bool, w = !decide (a0.tmod 2 = 0) := ⟨_, rfl⟩
  obtain ⟨w, hw⟩ := hw
  obtain ⟨h4, row4, e4, H4, hr4, F4⟩ : ∃ h4 row4, evF cm (k + 200) (if w then 11 else 10) [.p (row .mem) 0 0, .i t, .i 0] h2 0 = some (.i 0, h4) ∧ MemAt h4 (((M.lock t 0).tick u).access t 0 w) row4 ∧ row4 .mem = row .mem ∧ Frm (own ((M.lock t 0).tick u) row) (own (((M.lock t 0).tick u).access t 0 w) row4) h2 h4 := by
    cases w with
    | true => exact write_ok (k + 89) h2 _ row H2 t 0 (by rw [n2.1]; exact ht4) (by rw [n2.2.2.1]; omega) (by omega) (by rw [n2.2.2.2.1]; simp)
    | false => exact read_ok (k + 89) h2 _ row H2 t 0 (by rw [n2.1]; exact ht4) (by rw [n2.2.2.1]; omega) (by omega) (by rw [n2.2.2.2.1]; simp)
  have n4 : (((M.lock t 0).tick u).access t 0 w).n = 4 ∧ (((M.lock t 0).tick u).access t 0 w).nl = 1 ∧ (((M.lock t 0).tick u).access t 0 w).ops = M.ops + 3 := by
    refine ⟨n2.1, n2.2.1, ?_⟩
    show ((M.lock t 0).tick u).ops + 1 = _
    omega
  obtain ⟨h5, row5, e5, H5, hr5, F5⟩ := unlock_ok (k + 90) h4 _ row4 H4 t 0 (by rw [n4.1]; exact ht4) (by rw [n4.2.1]; omega) (m3 w) (by omega)
  rw [hr4] at e5
  have hN := lk_next M hM t u hut w
  have eN : lkNext M t u w = (((M.lock t 0).tick u).access t 0 w).unlock t 0 := by unfold lkNext; rw [m2]
  rw [eN] at hN
  have o5 : ((((M.lock t 0).tick u).access t 0 w).unlock t 0).ops = M.ops + 4 := by
    show (((M.lock t 0).tick u).access t 0 w).ops + 1 = _
    omega
  have e1' : evF cm (k + 200) 8 [.p (row .mem) 0 0, .i t, .i 0] h 0 = some (.tup [.b true, .i 0], h1) := e1
  have e2' : evF cm (k + 200) 8 [.p (row .mem) 0 0, .i u, .i 0] h1 0 = some (.tup [.b false, .i 0], h2) := e2
  have e3' : evF cm (k + 200) 9 [.p (row .mem) 0 0, .i u, .i 0] h2 0 = some (.i 2, h2) := by
    have := unlock_err (k + 196) h2 _ row H2 u 0 (.inr (.inr (.inr (.inr (by show ((M.lock t 0).tick u).lo 0 ≠ u; rw [n2.2.2.2.2.2]; omega)))))
    exact this
  have e5' : evF cm (k + 200) 9 [.p (row .mem) 0 0, .i t, .i 0] h4 0 = some (.i 0, h5) := e5
  cases w with
  | true =>
    have hm : ¬ a0.tmod 2 = 0 := by simpa using hw
    simp only [if_true] at e4
    simp -implicitDefEqProofs only [c3b0, fgL, t0, t3, t5, hS.len, hx, g1, w1, w2, b1, b2, e1', e2', e3', e4, e5', hm, push_cast, Nat.reduceAdd, Nat.reduceMul, Nat.reduceSub, Nat.reduceLT, Nat.reduceLeDiff, Nat.reduceEqDiff, Nat.reducePow, Int.reduceToNat, Int.reduceLT, Int.reduceLE, Int.reduceNeg, Int.reduceEq, Int.reducePow, reduceIte, reduceCtorEq, Int.reduceMul, Int.reduceAdd, Int.reduceSub, Int.reduceMod, Int.reduceDiv, Int.reduceTDiv, Int.reduceTMod, iter_s]
    exact ⟨_, rfl, _, h5, _, row5, rfl, H5, hN, by rw [o5]; omega, rfl, rfl, by rw [hr5, hr4]; rfl, rfl⟩
  | false =>
    have hm : a0.tmod 2 = 0 := by simpa using hw
    simp only [Bool.false_eq_true, if_false] at e4
    simp -implicitDefEqProofs only [c3b0, fgL, t0, t3, t5, hS.len, hx, g1, w1, w2, b1, b2, e1', e2', e3', e4, e5', hm, push_cast, Nat.reduceAdd, Nat.reduceMul, Nat.reduceSub, Nat.reduceLT, Nat.reduceLeDiff, Nat.reduceEqDiff, Nat.reducePow, Int.reduceToNat, Int.reduceLT, Int.reduceLE, Int.reduceNeg, Int.reduceEq, Int.reducePow, reduceIte, reduceCtorEq, Int.reduceMul, Int.reduceAdd, Int.reduceSub, Int.reduceMod, Int.reduceDiv, Int.reduceTDiv, Int.reduceTMod, iter_s]
    exact ⟨_, rfl, _, h5, _, row5, rfl, H5, hN, by rw [o5]; omega, rfl, rfl, by rw [hr5, hr4]; rfl, rfl⟩
theorem locks_last (K : Nat) (n : Nat) (l : List Int) (S : LV) (hS : SlE 5 n l S) (s : St) (hs : SL S n s) :
    ∃ s', evCode (evF cm K) K 0 c3b0 (cleanN fgL s) = some (.exit 0, s') ∧ SL S n s' := by
  obtain ⟨T, h, M, row, rfl, H, hM, ho, hT, t0, t3, t5⟩ := hs
  rw [tl98 hT]
  have g1 : ¬ (n : Int) < (n : Int) := by omega
  simp -implicitDefEqProofs only [c3b0, fgL, t0, t3, t5, hS.len, g1, push_cast, Nat.reduceAdd, Nat.reduceMul, Nat.reduceSub, Nat.reduceLT, Nat.reduceLeDiff, Nat.reduceEqDiff, Nat.reducePow, Int.reduceToNat, Int.reduceLT, Int.reduceLE, Int.reduceNeg, Int.reduceEq, Int.reducePow, reduceIte, reduceCtorEq, Int.reduceMul, Int.reduceAdd, Int.reduceSub, Int.reduceMod, Int.reduceDiv, Int.reduceTDiv, Int.reduceTMod, iter_s]
  exact ⟨_, rfl, _, h, M, row, rfl, H, hM, ho, rfl, rfl, rfl, rfl⟩
theorem e3 (k n : Nat) (l : List Int) (S : LV) (hS : SlE 5 n l S) : ∃ h', evF cm (k + 300) 3 [S] [] 0 = some (.b true, h') := by
  rw [evH_fun (m := c3) rfl _ _ _ _ rfl]
  by_cases hn : (60 : Int) < (n : Int)
  · simp -implicitDefEqProofs only [c3, hS.len, hn, e6, push_cast, Nat.reduceAdd, Nat.reduceMul, Nat.reduceSub, Nat.reduceLT, Nat.reduceLeDiff, Nat.reduceEqDiff, Nat.reducePow, Int.reduceToNat, Int.reduceLT, Int.reduceLE, Int.reduceNeg, Int.reduceEq, Int.reducePow, reduceIte, reduceCtorEq, Int.reduceMul, Int.reduceAdd, Int.reduceSub, Int.reduceMod, Int.reduceDiv, Int.reduceTDiv, Int.reduceTMod]
    exact ⟨_, rfl⟩
  · obtain ⟨h0, e0, H0⟩ := new_iso (k + 298) 4 1 1 1 (by omega) (by omega) (by omega) (by omega) (by omega) (by omega)
    have e0' : evF cm (k + 299) 7 [.i 4, .i 1, .i 1, .i 1] [] 0 = some (.tup [.p 3 0 0, .i 0], h0) := e0
    have e0p : evP (evF cm (k + 299)) 7 [.i 4, .i 1, .i 1, .i 1] = none := by
      unfold evP; rw [e0']; rfl
    have H1 := mem_shift H0 []
    have key : ∀ s I, iter (evCode (evF cm (k + 299)) (k + 299) 0 c3b0) (cleanN fgL) (k + 299) s = I → SL S 0 s → ∃ s', I = some (.exit 0, s') ∧ SL S n s' := by
      intro s I hI hs
      obtain ⟨s', h1, h2⟩ := iter_count (fun i s hi hs => locks_round (k + 299) (by omega) n l S hS (by omega) i s hi hs) (fun s hs => locks_last (k + 299) n l S hS s hs) n 0 s (k + 299) (by omega) (by omega) hs
      exact ⟨s', hI.symm.trans h1, h2⟩
    simp -implicitDefEqProofs only [c3, hS.len, hn, e0', e0p, push_cast, Nat.reduceAdd, Nat.reduceMul, Nat.reduceSub, Nat.reduceLT, Nat.reduceLeDiff, Nat.reduceEqDiff, Nat.reducePow, Int.reduceToNat, Int.reduceLT, Int.reduceLE, Int.reduceNeg, Int.reduceEq, Int.reducePow, reduceIte, reduceCtorEq, Int.reduceMul, Int.reduceAdd, Int.reduceSub, Int.reduceMod, Int.reduceDiv, Int.reduceTDiv, Int.reduceTMod]
    generalize hI : iter _ _ _ _ = I
    obtain ⟨s', hI2, T, h, M, row, rfl, H, hM, ho, hT, t0, t3, t5⟩ := key _ _ hI ⟨_, _, _, _, rfl, H1, lk_new, Int.le_refl _, rfl, rfl, rfl, rfl⟩
    subst hI2
    clear hI
    have ec := fun k => clashes_ok k h M row H (by rw [hM.cl]; simp)
    have ec' : ∀ k, evF cm (k + 3) 12 [.p (row .mem) 0 0] h 0 = some (.nils, h) := fun k => by
      rw [ec, hM.cl]; simp [clS, clT]
    rw [tl98 hT]
    simp -implicitDefEqProofs only [t3, ec', e6, push_cast, Nat.reduceAdd, Nat.reduceMul, Nat.reduceSub, Nat.reduceLT, Nat.reduceLeDiff, Nat.reduceEqDiff, Nat.reducePow, Int.reduceToNat, Int.reduceLT, Int.reduceLE, Int.reduceNeg, Int.reduceEq, Int.reducePow, reduceIte, reduceCtorEq, Int.reduceMul, Int.reduceAdd, Int.reduceSub, Int.reduceMod, Int.reduceDiv, Int.reduceTDiv, Int.reduceTMod]
    exact ⟨_, rfl⟩
theorem op_of : ∀ x, Is (.agg [.i .i64, .i .i64, .i .i64, .i .i64, .i .i64]) x → ∃ l : List Int, x = l.map LV.i ∧ l.length = 5 ∧ ∀ n ∈ l, -9223372036854775808 ≤ n ∧ n ≤ 9223372036854775807 := by
  rintro _ ⟨_, _, rfl, ⟨x0, rfl, l0, u0⟩, ⟨_, _, rfl, ⟨x1, rfl, l1, u1⟩, ⟨_, _, rfl, ⟨x2, rfl, l2, u2⟩, ⟨_, _, rfl, ⟨x3, rfl, l3, u3⟩, ⟨_, _, rfl, ⟨x4, rfl, l4, u4⟩, rfl⟩⟩⟩⟩⟩
  refine ⟨[x0, x1, x2, x3, x4], rfl, rfl, fun n hn => ?_⟩
  simp only [List.mem_cons, List.not_mem_nil, or_false] at hn
  simp only [IntKind.min, IntKind.max] at *
  rcases hn with rfl | rfl | rfl | rfl | rfl <;> constructor <;> assumption
end Go.Proofs.Ytlbcandecifkcaa
