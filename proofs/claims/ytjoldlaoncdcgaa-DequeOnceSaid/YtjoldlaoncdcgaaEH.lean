/- A run of an owner and of thieves: the whole run, as the evaluator answers. -/
import Derived.Test.YtjoldlaoncdcgaaEG
set_option linter.unusedSimpArgs false
set_option linter.unusedVariables false
set_option maxRecDepth 100000
set_option maxHeartbeats 16000000
namespace Go.Proofs.Ytjoldlaoncdcgaa
open Go
theorem tl86 {T : List LV} (h : T.length = 86) : T = [getT T 0, getT T 1, getT T 2, getT T 3, getT T 4, getT T 5, getT T 6, getT T 7, getT T 8, getT T 9, getT T 10, getT T 11, getT T 12, getT T 13, getT T 14, getT T 15, getT T 16, getT T 17, getT T 18, getT T 19, getT T 20, getT T 21, getT T 22, getT T 23, getT T 24, getT T 25, getT T 26, getT T 27, getT T 28, getT T 29, getT T 30, getT T 31, getT T 32, getT T 33, getT T 34, getT T 35, getT T 36, getT T 37, getT T 38, getT T 39, getT T 40, getT T 41, getT T 42, getT T 43, getT T 44, getT T 45, getT T 46, getT T 47, getT T 48, getT T 49, getT T 50, getT T 51, getT T 52, getT T 53, getT T 54, getT T 55, getT T 56, getT T 57, getT T 58, getT T 59, getT T 60, getT T 61, getT T 62, getT T 63, getT T 64, getT T 65, getT T 66, getT T 67, getT T 68, getT T 69, getT T 70, getT T 71, getT T 72, getT T 73, getT T 74, getT T 75, getT T 76, getT T 77, getT T 78, getT T 79, getT T 80, getT T 81, getT T 82, getT T 83, getT T 84, getT T 85] := tlT h
/-- A slice of bytes. -/
structure SlU (l : List Int) (S : LV) : Prop where
  len : lenE S = some (.i l.length)
  atm : atomB S = true
  cells : S.cells = [S]
  cl : closed S = true
  ix : ∀ i : Nat, i < l.length → ixsE 1 S (.i i) = some (.pi ((l.map fun x => LV.v (.int .u8 x)).drop i))
  rng : ∀ x ∈ l, 0 ≤ x ∧ x ≤ 255
theorem rd_u8 (l : List Int) (n : Nat) (h : n < l.length) : rdAt ((l.map fun x => LV.v (.int .u8 x)).drop n) 0 none = some (.v (.int .u8 (l.getD n 0))) := by
  simp [rdAt, h]
theorem rd_u8' (l : List Int) (n : Nat) (h : n < l.length) : ((l.map fun x => LV.v (.int .u8 x)).drop n)[0]? = some (.v (.int .u8 (l.getD n 0))) := by
  simp [h]
/-- A run, somewhere on its way. -/
def RunSt (S1 S2 : LV) (th : Int) (push : List Bool) (c n g0 : Nat) (i r : Nat) (h : List Row) : Prop :=
  ∃ row gr G T X, GAt S1 S2 c th h G row gr ∧ PI push c G T X ∧ AX push c n i G ∧ gr .gm = g0 ∧ remT push (G.th 0) ≤ r
section
variable {S1 S2 : LV} {th : Int} {c n g0 : Nat} {push : List Bool}
theorem RunSt.gm {i r : Nat} {h : List Row} (R : RunSt S1 S2 th push c n g0 i r h) : h.isEmpty = false ∧ ∃ m l P S O, rowOf h g0 0 = some [S1, .i c, .i th, S2, .p m 0 0, .i 0, .i c, .sl l 0 0 n 4 n, P, S, O, .b false] := by
  obtain ⟨row, gr, G, T, X, A, H, Y, rfl, hr⟩ := R
  have := A.rgm
  unfold gmC at this
  rw [Y.Gn] at this
  exact ⟨A.ne0, _, _, _, _, _, this⟩
theorem RunSt.mono {i r i' r' : Nat} {h : List Row} (R : RunSt S1 S2 th push c n g0 i r h) (hi : i ≤ i') (hr : r ≤ r') : RunSt S1 S2 th push c n g0 i' r' h := by
  obtain ⟨row, gr, G, T, X, A, H, Y, e, h1⟩ := R
  exact ⟨row, gr, G, T, X, A, H, Y.mono hi, e, by omega⟩
theorem RunSt.step {i r : Nat} {h : List Row} (R : RunSt S1 S2 th push c n g0 i r h) (k : Nat) {t : Nat} (ht : t < n) (hn : n ≤ 20) (hc : c ≤ 100) (hi : i ≤ 10000) (hp : push.length ≤ 40) (hS : SlB push S1) :
    ∃ h', evF cm (k + 140) 23 [.p g0 0 0, .i t] h 0 = some (.tup [], h') ∧ RunSt S1 S2 th push c n g0 (i + 1) (if t = 0 then r - 1 else r) h' := by
  obtain ⟨row, gr, G, T, X, A, H, Y, rfl, h1⟩ := R
  obtain ⟨h', row', gr', e, A', hg⟩ := gstep_ok k A H Y ht hn hc hi hp hS
  obtain ⟨T', X', H'⟩ := H.step (show t < G.n by rw [Y.Gn]; exact ht) hp
  refine ⟨h', e, row', gr', _, T', X', A', H', Y.step t, hg, ?_⟩
  have := rem_step H t
  split
  · rename_i h0; have := this.2 h0; omega
  · omega
/-! ### the picks -/
def fgP : List Nat := [24, 23, 37, 36, 35, 34, 33, 32, 31, 30, 29, 28, 27, 26, 25, 22, 21, 20, 19, 18, 17, 16, 15]
def SPk (S1 S2 : LV) (th : Int) (push : List Bool) (c n g0 : Nat) (i : Nat) (s : St) : Prop := ∃ T h, s = (T, h) ∧ RunSt S1 S2 th push c n g0 i 300 h ∧ T.length = 86 ∧ getT T 0 = .p g0 0 0 ∧ getT T 2 = .i n ∧ getT T 3 = .i i
theorem picks_round (K : Nat) (hK : 200 ≤ K) (hn0 : 0 < n) (hn : n ≤ 20) (hc : c ≤ 100) (hp : push.length ≤ 40) (hS : SlB push S1) (l : List Int) (hS2 : SlU l S2) (hl : l.length ≤ 400) (i : Nat) (s : St) (hi : i < l.length) (hs : SPk S1 S2 th push c n g0 i s) :
    ∃ s', evCode (evF cm K) K 0 c16b3 (cleanN fgP s) = some (.nrm, s') ∧ SPk S1 S2 th push c n g0 (i + 1) s' := by
  obtain ⟨k, rfl⟩ : ∃ k, K = k + 140 := ⟨K - 140, by omega⟩
  obtain ⟨T, h, rfl, R, hT, t0, t2, t3⟩ := hs
  rw [tl86 hT]
  obtain ⟨hne, m, ls, P, S, O, q1⟩ := R.gm
  have g1 : (i : Int) < (l.length : Int) := by omega
  have w1 : IntKind.i64.wrap ((i : Int) + 1) = (i : Int) + 1 := w64 _ (by omega) (by omega)
  have hx := hS2.ix i hi
  have hr := rd_u8 l i hi
  have hr' := rd_u8' l i hi
  have hv := hS2.rng (l.getD i 0) (by rw [List.getD_eq_getElem?_getD, List.getElem?_eq_getElem hi]; exact List.getElem_mem hi)
  generalize l.getD i 0 = v at *
  have w2 : IntKind.i64.wrap v = v := w64 _ (by omega) (by omega)
  obtain ⟨t, ht, ht2⟩ : ∃ t : Nat, v.tmod (n : Int) = t ∧ t < n := by
    have h1 := Int.emod_nonneg v (show (n : Int) ≠ 0 by omega)
    have h2 := Int.emod_lt_of_pos v (show (0 : Int) < n by omega)
    exact ⟨(v.tmod n).toNat, by rw [tmod_pos hv.1]; omega, by rw [tmod_pos hv.1]; omega⟩
  have w3 : IntKind.i64.wrap (v.tmod (n : Int)) = (t : Int) := by rw [ht]; exact w64 _ (by omega) (by omega)
  have nz : ¬ (n : Int) = 0 := by omega
  obtain ⟨h', e, R'⟩ := R.step k ht2 hn hc (by omega) hp hS
  have R2 := R'.mono (i' := i + 1) (r' := 300) (Nat.le_refl _) (by split <;> omega)
  simp -implicitDefEqProofs only [c16b3, fgP, t0, t2, t3, q1, hS2.len, hx, hr, hr', g1, w1, w2, w3, ht, nz, e, push_cast, Nat.reduceAdd, Nat.reduceMul, Nat.reduceSub, Nat.reduceLT, Nat.reduceLeDiff, Nat.reduceEqDiff, Nat.reducePow, Int.reduceToNat, Int.reduceLT, Int.reduceLE, Int.reduceNeg, Int.reduceEq, Int.reducePow, reduceIte, reduceCtorEq, Int.reduceMul, Int.reduceAdd, Int.reduceSub, Int.reduceMod, Int.reduceDiv, Int.reduceTDiv, Int.reduceTMod, iter_s]
  refine ⟨_, rfl, ?_⟩
  exact ⟨_, h', rfl, R2, rfl, rfl, rfl, rfl⟩
theorem picks_last (K : Nat) (l : List Int) (hS2 : SlU l S2) (s : St) (hs : SPk S1 S2 th push c n g0 l.length s) :
    ∃ s', evCode (evF cm K) K 0 c16b3 (cleanN fgP s) = some (.exit 0, s') ∧ SPk S1 S2 th push c n g0 l.length s' := by
  obtain ⟨T, h, rfl, R, hT, t0, t2, t3⟩ := hs
  rw [tl86 hT]
  obtain ⟨hne, m, ls, P, S, O, q1⟩ := R.gm
  have g1 : ¬ (l.length : Int) < (l.length : Int) := by omega
  simp -implicitDefEqProofs only [c16b3, fgP, t0, t2, t3, q1, hS2.len, g1, push_cast, Nat.reduceAdd, Nat.reduceMul, Nat.reduceSub, Nat.reduceLT, Nat.reduceLeDiff, Nat.reduceEqDiff, Nat.reducePow, Int.reduceToNat, Int.reduceLT, Int.reduceLE, Int.reduceNeg, Int.reduceEq, Int.reducePow, reduceIte, reduceCtorEq, Int.reduceMul, Int.reduceAdd, Int.reduceSub, Int.reduceMod, Int.reduceDiv, Int.reduceTDiv, Int.reduceTMod, iter_s]
  exact ⟨_, rfl, _, h, rfl, R, rfl, rfl, rfl, rfl⟩
/-! ### then by turns -/
def fgT : List Nat := [46, 45, 49, 48, 47, 44, 43, 42]
def STn (S1 S2 : LV) (th : Int) (push : List Bool) (c n g0 : Nat) (j : Nat) (i : Nat) (s : St) : Prop := ∃ T h, s = (T, h) ∧ RunSt S1 S2 th push c n g0 (400 + 20 * j + i) (300 - j - (if i = 0 then 0 else 1)) h ∧ T.length = 86 ∧ getT T 0 = .p g0 0 0 ∧ getT T 2 = .i n ∧ getT T 4 = .i j ∧ getT T 5 = .i i
theorem turns_round (K : Nat) (hK : 200 ≤ K) (hn : n ≤ 20) (hc : c ≤ 100) (hp : push.length ≤ 40) (hS : SlB push S1) (j : Nat) (hj : j < 400) (i : Nat) (s : St) (hi : i < n) (hs : STn S1 S2 th push c n g0 j i s) :
    ∃ s', evCode (evF cm K) K 0 c16b1 (cleanN fgT s) = some (.nrm, s') ∧ STn S1 S2 th push c n g0 j (i + 1) s' := by
  obtain ⟨k, rfl⟩ : ∃ k, K = k + 140 := ⟨K - 140, by omega⟩
  obtain ⟨T, h, rfl, R, hT, t0, t2, t4, t5⟩ := hs
  rw [tl86 hT]
  have hne := R.gm.1
  have g1 : (i : Int) < (n : Int) := by omega
  have w1 : IntKind.i64.wrap ((i : Int) + 1) = (i : Int) + 1 := w64 _ (by omega) (by omega)
  obtain ⟨h', e, R'⟩ := R.step k hi hn hc (by omega) hp hS
  have R2 := R'.mono (i' := 400 + 20 * j + (i + 1)) (r' := 300 - j - (if i + 1 = 0 then 0 else 1)) (by omega) (by
    rw [if_neg (show ¬ i + 1 = 0 by omega)]
    split <;> omega)
  simp -implicitDefEqProofs only [c16b1, fgT, t0, t2, t4, t5, g1, w1, e, push_cast, Nat.reduceAdd, Nat.reduceMul, Nat.reduceSub, Nat.reduceLT, Nat.reduceLeDiff, Nat.reduceEqDiff, Nat.reducePow, Int.reduceToNat, Int.reduceLT, Int.reduceLE, Int.reduceNeg, Int.reduceEq, Int.reducePow, reduceIte, reduceCtorEq, Int.reduceMul, Int.reduceAdd, Int.reduceSub, Int.reduceMod, Int.reduceDiv, Int.reduceTDiv, Int.reduceTMod, iter_s]
  exact ⟨_, rfl, _, h', rfl, R2, rfl, rfl, rfl, rfl, rfl⟩
theorem turns_last (K : Nat) (j : Nat) (s : St) (hs : STn S1 S2 th push c n g0 j n s) :
    ∃ s', evCode (evF cm K) K 0 c16b1 (cleanN fgT s) = some (.exit 4, s') ∧ STn S1 S2 th push c n g0 j n s' := by
  obtain ⟨T, h, rfl, R, hT, t0, t2, t4, t5⟩ := hs
  rw [tl86 hT]
  have g1 : ¬ (n : Int) < (n : Int) := by omega
  simp -implicitDefEqProofs only [c16b1, fgT, t0, t2, t4, t5, g1, push_cast, Nat.reduceAdd, Nat.reduceMul, Nat.reduceSub, Nat.reduceLT, Nat.reduceLeDiff, Nat.reduceEqDiff, Nat.reducePow, Int.reduceToNat, Int.reduceLT, Int.reduceLE, Int.reduceNeg, Int.reduceEq, Int.reducePow, reduceIte, reduceCtorEq, Int.reduceMul, Int.reduceAdd, Int.reduceSub, Int.reduceMod, Int.reduceDiv, Int.reduceTDiv, Int.reduceTMod, iter_s]
  exact ⟨_, rfl, _, h, rfl, R, rfl, rfl, rfl, rfl, rfl⟩
def fgR2 : List Nat := [41, 40, 46, 45, 49, 48, 47, 44, 43, 42, 39, 38]
def SRd (S1 S2 : LV) (th : Int) (push : List Bool) (c n g0 : Nat) (j : Nat) (s : St) : Prop := ∃ T h, s = (T, h) ∧ RunSt S1 S2 th push c n g0 (400 + 20 * j) (300 - j) h ∧ T.length = 86 ∧ getT T 0 = .p g0 0 0 ∧ getT T 2 = .i n ∧ getT T 4 = .i j
theorem rounds_round (K : Nat) (hK : 200 ≤ K) (hn0 : 0 < n) (hn : n ≤ 20) (hc : c ≤ 100) (hp : push.length ≤ 40) (hS : SlB push S1) (j : Nat) (s : St) (hj : j < 400) (hs : SRd S1 S2 th push c n g0 j s) :
    ∃ s', evCode (evF cm K) K 0 c16b2 (cleanN fgR2 s) = some (.nrm, s') ∧ SRd S1 S2 th push c n g0 (j + 1) s' := by
  obtain ⟨T, h, rfl, R, hT, t0, t2, t4⟩ := hs
  rw [tl86 hT]
  have g1 : (j : Int) < 400 := by omega
  have w1 : IntKind.i64.wrap ((j : Int) + 1) = (j : Int) + 1 := w64 _ (by omega) (by omega)
  have key : ∀ s I, iter (evCode (evF cm K) K 0 c16b1) (cleanN fgT) K s = I → STn S1 S2 th push c n g0 j 0 s → ∃ s', I = some (.exit 4, s') ∧ STn S1 S2 th push c n g0 j n s' := by
    intro s I hI hs
    obtain ⟨s', h1, h2⟩ := iter_count (fun i s hi hs => turns_round K hK hn hc hp hS j hj i s hi hs) (fun s hs => turns_last K j s hs) n 0 s K (by omega) (by omega) hs
    exact ⟨s', hI.symm.trans h1, h2⟩
  simp -implicitDefEqProofs only [c16b2, fgR2, t0, t2, t4, g1, push_cast, Nat.reduceAdd, Nat.reduceMul, Nat.reduceSub, Nat.reduceLT, Nat.reduceLeDiff, Nat.reduceEqDiff, Nat.reducePow, Int.reduceToNat, Int.reduceLT, Int.reduceLE, Int.reduceNeg, Int.reduceEq, Int.reducePow, reduceIte, reduceCtorEq, Int.reduceMul, Int.reduceAdd, Int.reduceSub, Int.reduceMod, Int.reduceDiv, Int.reduceTDiv, Int.reduceTMod]
  generalize hI : iter _ _ _ _ = I
  obtain ⟨s', hI2, T', h', rfl, R', hT', u0, u2, u4, u5⟩ := key _ _ hI ⟨_, h, rfl, R.mono (by omega) (by simp), rfl, rfl, rfl, rfl, rfl⟩
  subst hI2
  clear hI
  rw [tl86 hT']
  simp -implicitDefEqProofs only [u0, u2, u4, u5, w1, push_cast, Nat.reduceAdd, Nat.reduceMul, Nat.reduceSub, Nat.reduceLT, Nat.reduceLeDiff, Nat.reduceEqDiff, Nat.reducePow, Int.reduceToNat, Int.reduceLT, Int.reduceLE, Int.reduceNeg, Int.reduceEq, Int.reducePow, reduceIte, reduceCtorEq, Int.reduceMul, Int.reduceAdd, Int.reduceSub, Int.reduceMod, Int.reduceDiv, Int.reduceTDiv, Int.reduceTMod]
  exact ⟨_, rfl, _, h', rfl, R'.mono (by omega) (by rw [if_neg (by omega)]; omega), rfl, rfl, rfl, rfl⟩
theorem rounds_last (K : Nat) (s : St) (hs : SRd S1 S2 th push c n g0 400 s) :
    ∃ s', evCode (evF cm K) K 0 c16b2 (cleanN fgR2 s) = some (.exit 2, s') ∧ SRd S1 S2 th push c n g0 400 s' := by
  obtain ⟨T, h, rfl, R, hT, t0, t2, t4⟩ := hs
  rw [tl86 hT]
  have c4 : ((400 : Nat) : Int) = 400 := rfl
  rw [c4] at t4
  simp -implicitDefEqProofs only [c16b2, fgR2, t0, t2, t4, push_cast, Nat.reduceAdd, Nat.reduceMul, Nat.reduceSub, Nat.reduceLT, Nat.reduceLeDiff, Nat.reduceEqDiff, Nat.reducePow, Int.reduceToNat, Int.reduceLT, Int.reduceLE, Int.reduceNeg, Int.reduceEq, Int.reducePow, reduceIte, reduceCtorEq, Int.reduceMul, Int.reduceAdd, Int.reduceSub, Int.reduceMod, Int.reduceDiv, Int.reduceTDiv, Int.reduceTMod, iter_s]
  exact ⟨_, rfl, _, h, rfl, R, rfl, rfl, rfl, rfl⟩
end
end Go.Proofs.Ytjoldlaoncdcgaa
