/- A deque's operation, step by step, as the evaluator answers: the whole. -/
import Derived.Test.YtjoldlaoncdcgaaOB
import Derived.Test.YtjoldlaoncdcgaaDQ
set_option linter.unusedSimpArgs false
set_option linter.unusedVariables false
set_option maxRecDepth 100000
set_option maxHeartbeats 16000000
namespace Go.Proofs.Ytjoldlaoncdcgaa
open Go
def pcN : PC → Nat
  | .pushBottom => 22 | .pushTop => 28 | .pushSlot => 36 | .pushDone => 46
  | .popBottom => 20 | .popStore => 26 | .popTop => 32 | .popNone => 41 | .popSlot => 42 | .popSwap => 47 | .popWon => 50 | .popLost => 51
  | .stealTop => 21 | .stealBottom => 27 | .stealSlot => 35 | .stealSwap => 44
def AO.cells (o : AO) : List LV := opC o.a o.c (.f (pcN o.pc) []) o.w o.tk o.b o.t o.v
theorem w64s {x : Int} (h : -3000000000 ≤ x ∧ x ≤ 3000000000) : IntKind.i64.wrap x = x := w64 _ (by omega) (by omega)
/-- What comes next, done. -/
theorem next_ok (k : Nat) {h : List Row} {M : AM} {row : Tg → Nat} {r tt : Nat} (o : AO) (P : OpPre h M row r tt o.a o.c o.cells) (Q : Fits o M) :
    ∃ h' row', evF cm (k + 113) (pcN o.pc) [.p r 0 0, .agg [.p (row .mem) 0 0, .i tt]] h 0 = some (.i 0, h') ∧ OpRes h M row r h' (stepO o M tt).1 row' (stepO o M tt).2.cells := by
  obtain ⟨a, c, pc, w, tk, b, t, v⟩ := o
  have qb := Q.b
  have qt := Q.t
  have q1 := Q.top
  have q2 := Q.bot
  have s1 := Q.slotB
  have s2 := Q.slotT
  unfold AO.cells at P ⊢
  simp only [small] at qb qt q1 q2 s1 s2 P
  cases pc with
  | pushBottom => exact (pushBottom_ok k P).elim fun h' ⟨e, R⟩ => ⟨h', row, e, R⟩
  | pushTop =>
    by_cases hx : (c : Int) ≤ b - M.av a
    · obtain ⟨h', e, R⟩ := pushTop_ok1 k P (w64s (by omega)) hx
      exact ⟨h', row, e, by simp only [stepO, hx, if_true]; exact R⟩
    · obtain ⟨h', e, R⟩ := pushTop_ok2 k P (w64s (by omega)) hx
      exact ⟨h', row, e, by simp only [stepO, hx, if_false]; exact R⟩
  | pushSlot =>
    obtain ⟨n, rfl⟩ : ∃ n : Nat, b = n := ⟨b.toNat, by have := s1 (.inl rfl); omega⟩
    obtain ⟨h', row', e, R⟩ := pushSlot_ok k n rfl P
    exact ⟨h', row', e, R⟩
  | pushDone => exact (pushDone_ok k P (w64s (by dsimp only; omega)))
  | popBottom => exact (popBottom_ok k P (w64s (by omega))).elim fun h' ⟨e, R⟩ => ⟨h', row, e, R⟩
  | popStore => exact popStore_ok k P
  | popTop =>
    by_cases hx : b < M.av a
    · obtain ⟨h', e, R⟩ := popTop_ok1 k P hx
      exact ⟨h', row, e, by simp only [stepO, hx, if_true]; exact R⟩
    · obtain ⟨h', e, R⟩ := popTop_ok2 k P hx
      exact ⟨h', row, e, by simp only [stepO, hx, if_false]; exact R⟩
  | popNone => exact popNone_ok k P
  | popSlot =>
    obtain ⟨n, rfl⟩ : ∃ n : Nat, b = n := ⟨b.toNat, by have := s1 (.inr rfl); omega⟩
    by_cases hx : t < (n : Int)
    · obtain ⟨h', e, R⟩ := popSlot_ok1 k n rfl P hx
      exact ⟨h', row, e, by simp only [stepO, hx, if_true]; exact R⟩
    · obtain ⟨h', e, R⟩ := popSlot_ok2 k n rfl P hx
      exact ⟨h', row, e, by simp only [stepO, hx, if_false]; exact R⟩
  | popSwap =>
    by_cases hx : M.av a = t
    · obtain ⟨h', row', e, R⟩ := popSwap_ok1 k P (w64s (by omega)) hx
      exact ⟨h', row', e, by simp only [stepO, hx, if_true]; exact R⟩
    · obtain ⟨h', row', e, R⟩ := popSwap_ok2 k P (w64s (by omega)) hx
      exact ⟨h', row', e, by simp only [stepO, hx, if_false]; exact R⟩
  | popWon => exact popWon_ok k P (w64s (by dsimp only; omega))
  | popLost => exact popLost_ok k P (w64s (by dsimp only; omega))
  | stealTop => exact (stealTop_ok k P).elim fun h' ⟨e, R⟩ => ⟨h', row, e, R⟩
  | stealBottom =>
    by_cases hx : M.av (a + 1) ≤ t
    · obtain ⟨h', e, R⟩ := stealBottom_ok1 k P hx
      exact ⟨h', row, e, by simp only [stepO, hx, if_true]; exact R⟩
    · obtain ⟨h', e, R⟩ := stealBottom_ok2 k P hx
      exact ⟨h', row, e, by simp only [stepO, hx, if_false]; exact R⟩
  | stealSlot =>
    obtain ⟨n, rfl⟩ : ∃ n : Nat, t = n := ⟨t.toNat, by have := s2 rfl; omega⟩
    obtain ⟨h', e, R⟩ := stealSlot_ok k n rfl P
    exact ⟨h', row, e, R⟩
  | stealSwap =>
    by_cases hx : M.av a = t
    · obtain ⟨h', row', e, R⟩ := stealSwap_ok1 k P (w64s (by omega)) hx
      exact ⟨h', row', e, by simp only [stepO, hx, if_true]; exact R⟩
    · obtain ⟨h', row', e, R⟩ := stealSwap_ok2 k P (w64s (by omega)) hx
      exact ⟨h', row', e, by simp only [stepO, hx, if_false]; exact R⟩
theorem pcS : ∀ pc : PC, isS cm (pcN pc) = true := by intro pc; cases pc <;> rfl
/-- Step: a step that is not the last one, or is. -/
theorem step_ok (k : Nat) {h : List Row} {M : AM} {row : Tg → Nat} {r tt : Nat} (o : AO) (P : OpPre h M row r tt o.a o.c o.cells) (Q : Fits o M) (hw : o.w = 0) :
    ∃ h' row', evF cm (k + 114) 18 [.p r 0 0, .p (row .mem) 0 0, .i tt] h 0 = some (.tup [.b (!decide ((stepO o M tt).2.w = 0)), .i 0], h') ∧ OpRes h M row r h' (stepO o M tt).1 row' (stepO o M tt).2.cells := by
  obtain ⟨h', row', e, R⟩ := next_ok k o P Q
  refine ⟨h', row', ?_, R⟩
  have q0 := P.op
  have q1 := R.op
  have hc := P.c0
  have g1 : ¬ (o.c : Int) < 1 := by omega
  have hs := pcS o.pc
  unfold AO.cells opC at q0 q1
  generalize pcN o.pc = p at *
  rw [evX_fun (m := c18) rfl _ _ _ _ P.mem.ne0 rfl]
  simp -implicitDefEqProofs only [c18, q0, q1, g1, hw, hs, e, call_X, push_cast, Nat.reduceAdd, Nat.reduceMul, Nat.reduceSub, Nat.reduceLT, Nat.reduceLeDiff, Nat.reduceEqDiff, Nat.reducePow, Int.reduceToNat, Int.reduceLT, Int.reduceLE, Int.reduceNeg, Int.reduceEq, Int.reducePow, reduceIte, reduceCtorEq, Int.reduceMul, Int.reduceAdd, Int.reduceSub, Int.reduceMod, Int.reduceDiv, Int.reduceTDiv, Int.reduceTMod, iter_s]
theorem step_done (k : Nat) {h : List Row} {M : AM} {row : Tg → Nat} {r tt : Nat} (o : AO) (P : OpPre h M row r tt o.a o.c o.cells) (hw : o.w ≠ 0) (t : LV) :
    evF cm (k + 1) 18 [.p r 0 0, .p (row .mem) 0 0, .i tt] h 0 = some (.tup [.b true, .i 0], h) := by
  have q0 := P.op
  have hc := P.c0
  have g1 : ¬ (o.c : Int) < 1 := by omega
  unfold AO.cells opC at q0
  rw [evX_fun (m := c18) rfl _ _ _ _ P.mem.ne0 rfl]
  simp -implicitDefEqProofs only [c18, q0, g1, hw, push_cast, Nat.reduceAdd, Nat.reduceMul, Nat.reduceSub, Nat.reduceLT, Nat.reduceLeDiff, Nat.reduceEqDiff, Nat.reducePow, Int.reduceToNat, Int.reduceLT, Int.reduceLE, Int.reduceNeg, Int.reduceEq, Int.reducePow, reduceIte, reduceCtorEq, Int.reduceMul, Int.reduceAdd, Int.reduceSub, Int.reduceMod, Int.reduceDiv, Int.reduceTDiv, Int.reduceTMod, iter_s]
theorem got_ok (k : Nat) {h : List Row} {r : Nat} (o : AO) (q0 : rowOf h r 0 = some o.cells) :
    evF cm (k + 1) 14 [.p r 0 0] h 0 = some (if o.tk = true ∧ o.w = 1 then .tup [.i o.v, .b true] else .tup [.i 0, .b false], h) := by
  have hn : h.isEmpty = false := by have := rowOf_lt q0; cases h with | nil => simp at this | cons _ _ => rfl
  unfold AO.cells opC at q0
  rw [evX_fun (m := c14) rfl _ _ _ _ hn rfl]
  by_cases h1 : o.tk = true
  · by_cases h2 : o.w = 1
    · simp -implicitDefEqProofs only [c14, q0, h1, h2, push_cast, Nat.reduceAdd, Nat.reduceMul, Nat.reduceSub, Nat.reduceLT, Nat.reduceLeDiff, Nat.reduceEqDiff, Nat.reducePow, Int.reduceToNat, Int.reduceLT, Int.reduceLE, Int.reduceNeg, Int.reduceEq, Int.reducePow, reduceIte, reduceCtorEq, Int.reduceMul, Int.reduceAdd, Int.reduceSub, Int.reduceMod, Int.reduceDiv, Int.reduceTDiv, Int.reduceTMod, iter_s]
    · simp -implicitDefEqProofs only [c14, q0, h1, h2, push_cast, Nat.reduceAdd, Nat.reduceMul, Nat.reduceSub, Nat.reduceLT, Nat.reduceLeDiff, Nat.reduceEqDiff, Nat.reducePow, Int.reduceToNat, Int.reduceLT, Int.reduceLE, Int.reduceNeg, Int.reduceEq, Int.reducePow, reduceIte, reduceCtorEq, Int.reduceMul, Int.reduceAdd, Int.reduceSub, Int.reduceMod, Int.reduceDiv, Int.reduceTDiv, Int.reduceTMod, iter_s]
  · have h1' : o.tk = false := by simpa using h1
    simp -implicitDefEqProofs only [c14, q0, h1', push_cast, Nat.reduceAdd, Nat.reduceMul, Nat.reduceSub, Nat.reduceLT, Nat.reduceLeDiff, Nat.reduceEqDiff, Nat.reducePow, Int.reduceToNat, Int.reduceLT, Int.reduceLE, Int.reduceNeg, Int.reduceEq, Int.reducePow, reduceIte, reduceCtorEq, Int.reduceMul, Int.reduceAdd, Int.reduceSub, Int.reduceMod, Int.reduceDiv, Int.reduceTDiv, Int.reduceTMod, iter_s]
theorem why_ok (k : Nat) {h : List Row} {r : Nat} (o : AO) (q0 : rowOf h r 0 = some o.cells) :
    evF cm (k + 1) 15 [.p r 0 0] h 0 = some (.i o.w, h) := by
  have hn : h.isEmpty = false := by have := rowOf_lt q0; cases h with | nil => simp at this | cons _ _ => rfl
  unfold AO.cells opC at q0
  rw [evX_fun (m := c15) rfl _ _ _ _ hn rfl]
  simp -implicitDefEqProofs only [c15, q0, push_cast, Nat.reduceAdd, Nat.reduceMul, Nat.reduceSub, Nat.reduceLT, Nat.reduceLeDiff, Nat.reduceEqDiff, Nat.reducePow, Int.reduceToNat, Int.reduceLT, Int.reduceLE, Int.reduceNeg, Int.reduceEq, Int.reducePow, reduceIte, reduceCtorEq, Int.reduceMul, Int.reduceAdd, Int.reduceSub, Int.reduceMod, Int.reduceDiv, Int.reduceTDiv, Int.reduceTMod, iter_s]
/-! ### an operation, done alone -/
theorem OpRes.trans {h h1 h2 : List Row} {M M1 M2 : AM} {row row1 row2 : Tg → Nat} {r : Nat} {c1 c2 : List LV} (a : OpRes h M row r h1 M1 row1 c1) (b : OpRes h1 M1 row1 r h2 M2 row2 c2) : OpRes h M row r h2 M2 row2 c2 :=
  ⟨b.mem, b.rm.trans a.rm, a.fr.trans b.fr, b.op, b.no⟩
theorem tl25 {T : List LV} (h : T.length = 25) : T = [getT T 0, getT T 1, getT T 2, getT T 3, getT T 4, getT T 5, getT T 6, getT T 7, getT T 8, getT T 9, getT T 10, getT T 11, getT T 12, getT T 13, getT T 14, getT T 15, getT T 16, getT T 17, getT T 18, getT T 19, getT T 20, getT T 21, getT T 22, getT T 23, getT T 24] := tlT h
def fgR : List Nat := [13, 12, 6, 24, 23, 22, 21, 20, 19, 14, 18, 17, 16, 15, 11, 10]
def SR (h : List Row) (M : AM) (row : Tg → Nat) (r tt : Nat) (s0 : AM × AO) (i : Nat) (s : St) : Prop :=
  ∃ T h' row', s = (T, h') ∧ T.length = 25 ∧ getT T 0 = .p r 0 0 ∧ getT T 1 = .p (row .mem) 0 0 ∧ getT T 2 = .i tt ∧ getT T 7 = .i ((i : Int) + 1) ∧ OpRes h M row r h' (itS tt s0 i).1 row' (itS tt s0 i).2.cells
theorem run_round (K : Nat) (h : List Row) (M : AM) (row : Tg → Nat) (r tt : Nat) (o : AO) (P : OpPre h M row r tt o.a o.c o.cells) (m : Nat) (hm : m ≤ 10) (hops : M.ops + 10 < 1000000000)
    (hf : ∀ i, i < m → Fits (itS tt (M, o) i).2 (itS tt (M, o) i).1 ∧ (itS tt (M, o) i).2.w = 0) (i : Nat) (s : St) (hi : i + 1 < m) (hs : SR h M row r tt (M, o) i s) :
    ∃ s', evCode (evF cm (K + 114)) (K + 114) 0 c13b0 (cleanN fgR s) = some (.nrm, s') ∧ SR h M row r tt (M, o) (i + 1) s' := by
  obtain ⟨T, h1, row1, rfl, ht, t0, t1, t2, t7, R⟩ := hs
  rw [tl25 ht]
  have hv := itS_inv tt (M, o) i
  have Pi : OpPre h1 (itS tt (M, o) i).1 row1 r tt (itS tt (M, o) i).2.a (itS tt (M, o) i).2.c (itS tt (M, o) i).2.cells :=
    ⟨R.mem, R.op, R.no, by rw [hv.1]; exact P.tt, by rw [hv.2.1, hv.2.2.2.1, hv.2.2.2.2]; exact P.na, by rw [hv.2.2.2.2]; exact P.c0, by rw [hv.2.1]; exact P.big, by rw [hv.2.2.1]; dsimp only; omega⟩
  obtain ⟨h2, row2, e, R2⟩ := step_ok K _ Pi (hf i (by omega)).1 (hf i (by omega)).2
  rw [R.rm] at e
  have hw := (hf (i + 1) (by omega)).2
  have hw' : (stepO (itS tt (M, o) i).2 (itS tt (M, o) i).1 tt).2.w = 0 := hw
  rw [hw'] at e
  simp only [decide_true, Bool.not_true] at e
  have g1 : (i : Int) + 1 ≤ 10 := by omega
  have w1 : IntKind.i64.wrap ((i : Int) + 1 + 1) = ((i + 1 : Nat) : Int) + 1 := by rw [w64 _ (by omega) (by omega)]; omega
  have hne := R.mem.ne0
  simp -implicitDefEqProofs only [c13b0, fgR, t0, t1, t2, t7, g1, w1, e, push_cast, Nat.reduceAdd, Nat.reduceMul, Nat.reduceSub, Nat.reduceLT, Nat.reduceLeDiff, Nat.reduceEqDiff, Nat.reducePow, Int.reduceToNat, Int.reduceLT, Int.reduceLE, Int.reduceNeg, Int.reduceEq, Int.reducePow, reduceIte, reduceCtorEq, Int.reduceMul, Int.reduceAdd, Int.reduceSub, Int.reduceMod, Int.reduceDiv, Int.reduceTDiv, Int.reduceTMod, iter_s]
  exact ⟨_, rfl, _, h2, row2, rfl, rfl, rfl, rfl, rfl, rfl, R.trans R2⟩
def RR (h : List Row) (M : AM) (row : Tg → Nat) (r tt : Nat) (s0 : AM × AO) (m : Nat) (s : St) : Prop :=
  ∃ T h' row', s = (T, h') ∧ T.length = 25 ∧ getT T 6 = .i m ∧ OpRes h M row r h' (itS tt s0 m).1 row' (itS tt s0 m).2.cells
theorem run_last (K : Nat) (h : List Row) (M : AM) (row : Tg → Nat) (r tt : Nat) (o : AO) (P : OpPre h M row r tt o.a o.c o.cells) (m : Nat) (hm : m ≤ 10) (hops : M.ops + 10 < 1000000000)
    (hf : ∀ i, i < m → Fits (itS tt (M, o) i).2 (itS tt (M, o) i).1 ∧ (itS tt (M, o) i).2.w = 0) (hl : (itS tt (M, o) m).2.w ≠ 0) (i : Nat) (s : St) (hi : i + 1 = m) (hs : SR h M row r tt (M, o) i s) :
    ∃ s', evCode (evF cm (K + 114)) (K + 114) 0 c13b0 (cleanN fgR s) = some (.ret, s') ∧ RR h M row r tt (M, o) m s' := by
  obtain ⟨T, h1, row1, rfl, ht, t0, t1, t2, t7, R⟩ := hs
  rw [tl25 ht]
  have hv := itS_inv tt (M, o) i
  have Pi : OpPre h1 (itS tt (M, o) i).1 row1 r tt (itS tt (M, o) i).2.a (itS tt (M, o) i).2.c (itS tt (M, o) i).2.cells :=
    ⟨R.mem, R.op, R.no, by rw [hv.1]; exact P.tt, by rw [hv.2.1, hv.2.2.2.1, hv.2.2.2.2]; exact P.na, by rw [hv.2.2.2.2]; exact P.c0, by rw [hv.2.1]; exact P.big, by rw [hv.2.2.1]; dsimp only; omega⟩
  obtain ⟨h2, row2, e, R2⟩ := step_ok K _ Pi (hf i (by omega)).1 (hf i (by omega)).2
  rw [R.rm] at e
  subst hi
  have hw' : ¬ (stepO (itS tt (M, o) i).2 (itS tt (M, o) i).1 tt).2.w = 0 := hl
  rw [decide_eq_false hw'] at e
  simp only [Bool.not_false] at e
  have g1 : (i : Int) + 1 ≤ 10 := by omega
  have w1 : (i : Int) + 1 = ((i + 1 : Nat) : Int) := by omega
  have hne := R.mem.ne0
  simp -implicitDefEqProofs only [c13b0, fgR, t0, t1, t2, t7, g1, e, push_cast, Nat.reduceAdd, Nat.reduceMul, Nat.reduceSub, Nat.reduceLT, Nat.reduceLeDiff, Nat.reduceEqDiff, Nat.reducePow, Int.reduceToNat, Int.reduceLT, Int.reduceLE, Int.reduceNeg, Int.reduceEq, Int.reducePow, reduceIte, reduceCtorEq, Int.reduceMul, Int.reduceAdd, Int.reduceSub, Int.reduceMod, Int.reduceDiv, Int.reduceTDiv, Int.reduceTMod, iter_s]
  exact ⟨_, rfl, _, h2, row2, rfl, rfl, rfl, R.trans R2⟩
theorem OpPre.start {h : List Row} {M : AM} {row : Tg → Nat} {r tt a c : Nat} {cs : List LV} (P : OpPre h M row r tt a c cs) : OpRes h M row r h M row cs :=
  ⟨P.mem, rfl, Frm.refl _ _, P.op, P.no⟩
/-- An operation that is done alone, in m steps. -/
theorem run_ok (K : Nat) (h : List Row) (M : AM) (row : Tg → Nat) (r tt : Nat) (o : AO) (P : OpPre h M row r tt o.a o.c o.cells) (m : Nat) (hm : m ≤ 10) (hm0 : 0 < m) (hops : M.ops + 10 < 1000000000)
    (hf : ∀ i, i < m → Fits (itS tt (M, o) i).2 (itS tt (M, o) i).1 ∧ (itS tt (M, o) i).2.w = 0) (hl : (itS tt (M, o) m).2.w ≠ 0) :
    ∃ h' row', evF cm (K + 130) 13 [.p r 0 0, .p (row .mem) 0 0, .i tt] h 0 = some (.i m, h') ∧ OpRes h M row r h' (itS tt (M, o) m).1 row' (itS tt (M, o) m).2.cells := by
  have key : ∀ s I, iter (evCode (evF cm (K + 129)) (K + 129) 0 c13b0) (cleanN fgR) (K + 129) s = I → SR h M row r tt (M, o) 0 s → ∃ s', I = some (.ret, s') ∧ RR h M row r tt (M, o) m s' := by
    intro s I hI hs
    have hh := iter_until (Re := fun _ => False) (e := 0) (S := fun i s => i < m ∧ SR h M row r tt (M, o) i s) (fun i s hi hs => by
      by_cases hl' : i + 1 = m
      · exact .inr (run_last (K + 15) h M row r tt o P m hm hops hf hl i s hl' hs.2)
      · obtain ⟨s', h1, h2⟩ := run_round (K + 15) h M row r tt o P m hm hops hf i s (by omega) hs.2
        exact .inl ⟨s', h1, by omega, h2⟩) (fun s hs => absurd hs.1 (Nat.lt_irrefl _)) m 0 s (K + 129) (by omega) (by omega) ⟨hm0, hs⟩
    rcases hh with ⟨_, _, hf⟩ | ⟨s', h1, h2⟩
    · exact hf.elim
    · exact ⟨s', hI ▸ h1, h2⟩
  rw [evX_fun (m := c13) rfl _ _ _ _ P.mem.ne0 rfl]
  simp -implicitDefEqProofs only [c13, push_cast, Nat.reduceAdd, Nat.reduceMul, Nat.reduceSub, Nat.reduceLT, Nat.reduceLeDiff, Nat.reduceEqDiff, Nat.reducePow, Int.reduceToNat, Int.reduceLT, Int.reduceLE, Int.reduceNeg, Int.reduceEq, Int.reducePow, reduceIte, reduceCtorEq, Int.reduceMul, Int.reduceAdd, Int.reduceSub, Int.reduceMod, Int.reduceDiv, Int.reduceTDiv, Int.reduceTMod]
  generalize hI : iter _ _ _ _ = I
  obtain ⟨s', hI2, T, h', row', rfl, ht, t6, R⟩ := key _ _ hI ⟨_, h, row, rfl, rfl, rfl, rfl, rfl, rfl, P.start⟩
  subst hI2
  refine ⟨h', row', ?_, R⟩
  rw [tl25 ht]
  simp -implicitDefEqProofs only [t6, push_cast, Nat.reduceAdd, Nat.reduceMul, Nat.reduceSub, Nat.reduceLT, Nat.reduceLeDiff, Nat.reduceEqDiff, Nat.reducePow, Int.reduceToNat, Int.reduceLT, Int.reduceLE, Int.reduceNeg, Int.reduceEq, Int.reducePow, reduceIte, reduceCtorEq, Int.reduceMul, Int.reduceAdd, Int.reduceSub, Int.reduceMod, Int.reduceDiv, Int.reduceTDiv, Int.reduceTMod]
end Go.Proofs.Ytjoldlaoncdcgaa
