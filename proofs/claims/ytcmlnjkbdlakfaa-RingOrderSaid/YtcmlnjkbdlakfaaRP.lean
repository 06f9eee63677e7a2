/- A ring's operation as the evaluator answers: a step, a run. -/
import Derived.Test.YtcmlnjkbdlakfaaRO
set_option linter.unusedSimpArgs false
set_option linter.unusedVariables false
set_option maxRecDepth 100000
set_option maxHeartbeats 16000000
namespace Go.Proofs.Ytcmlnjkbdlakfaa
open Go
def fnR : RK → Nat
  | .publish => 29 | .await => 32 | .stop => 33 | .claim => 30 | .finish => 31
theorem fnRS : ∀ kd : RK, isS cm (fnR kd) = true := by intro kd; cases kd <;> rfl
def RO.cells (rr : Nat) (o : RO) : List LV := opR rr (.f (fnR o.kd) []) o.pc o.w o.n o.got o.tasks o.frame
/-- Which steps there are. -/
def mxPc : RK → Nat
  | .publish => 3 | .await => 0 | .stop => 0 | .claim => 6 | .finish => 1
def okPc (o : RO) : Prop := o.pc ≤ mxPc o.kd
theorem stepR_pc {s : RS} (t : Nat) (h : okPc s.o) : okPc (stepR s t).o := by
  have K := (stepR_keep s t).kd
  obtain ⟨M, R, ⟨kd, pc, w, n, got, tasks, frame⟩⟩ := s
  unfold okPc at h ⊢
  rw [K]
  dsimp only at h ⊢
  have f : ∀ (p q : Prop) [Decidable p], ∀ (x y : RS) (n : Nat), x.o.pc ≤ n → y.o.pc ≤ n → (if p then x else y).o.pc ≤ n := fun p q _ x y n h1 h2 => by split <;> assumption
  cases kd <;> simp only [stepR, mxPc] at h ⊢ <;> (repeat' refine f _ True _ _ _ ?_ ?_) <;> first | exact h | (dsimp only; omega)
theorem next_ok (k : Nat) {h : List Row} {M : AM} {row : Tg → Nat} {r rr tt : Nat} {R : RG} (o : RO) (P : RPre h M row r rr tt R (o.cells rr)) (Q : FitsR ⟨M, R, o⟩ tt) (hp : okPc o) :
    ∃ h' row', evF cm (k + 115) (fnR o.kd) [.p r 0 0, .p (row .mem) 0 0, .i tt] h 0 = some (.i 0, h') ∧ RRes h M row r rr h' (stepR ⟨M, R, o⟩ tt).M row' (stepR ⟨M, R, o⟩ tt).R ((stepR ⟨M, R, o⟩ tt).o.cells rr) := by
  obtain ⟨kd, pc, w, n, got, tasks, frame⟩ := o
  have qn := Q.n
  have qv := Q.at'
  have qh := Q.head
  have qd := Q.dealt
  have qu := Q.un
  have hf : (R.head : Int) ≤ 1000000 := by dsimp only at qh; omega
  have hd : (R.dealt : Int) ≤ 1000000 := by dsimp only at qd; omega
  unfold RO.cells at P
  dsimp only at qn qv qu P hp
  cases kd with
  | publish =>
    have hp' : pc = 0 ∨ pc = 1 ∨ pc = 2 ∨ pc = 3 := by simp only [okPc, mxPc] at hp; omega
    rcases hp' with rfl | rfl | rfl | rfl
    · by_cases hx : (R.k : Int) ≤ (R.head : Int) - M.av (R.a + 1)
      · obtain ⟨h', e, X⟩ := publish0a k hf (qv _) hx P
        exact ⟨h', row, e, by simp only [stepR, hx, if_true]; exact X⟩
      · obtain ⟨h', e, X⟩ := publish0b k hf (qv _) hx P
        exact ⟨h', row, e, by simp only [stepR, hx, if_true, if_false]; exact X⟩
    · obtain ⟨h', row', e, X⟩ := publish1 k hf P
      exact ⟨h', row', e, X⟩
    · obtain ⟨h', row', e, X⟩ := publish2 k hf P
      exact ⟨h', row', e, X⟩
    · obtain ⟨h', row', e, X⟩ := publish3 k hf P
      refine ⟨h', row', e, ?_⟩
      have e0 : ((R.head + 1 : Nat) : Int) = (R.head : Int) + 1 := by omega
      rw [e0] at X
      exact X
  | await =>
    have hp' : pc = 0 := by simp only [okPc, mxPc] at hp; omega
    subst hp'
    by_cases hx : M.av (R.a + 1) < n
    · obtain ⟨h', e, X⟩ := await0 k hx P
      exact ⟨h', row, e, by simp only [stepR, hx, if_true]; exact X⟩
    · obtain ⟨h', e, X⟩ := await1 k hx P
      exact ⟨h', row, e, by simp only [stepR, hx, if_false]; exact X⟩
  | stop =>
    have hp' : pc = 0 := by simp only [okPc, mxPc] at hp; omega
    subst hp'
    exact stop0 k P
  | claim =>
    have hp' : pc = 0 ∨ pc = 1 ∨ pc = 2 ∨ pc = 3 ∨ pc = 4 ∨ pc = 5 ∨ pc = 6 := by simp only [okPc, mxPc] at hp; omega
    rcases hp' with rfl | rfl | rfl | rfl | rfl | rfl | rfl
    · obtain ⟨h', e, X⟩ := claim0 k P
      exact ⟨h', row, e, X⟩
    · obtain ⟨h', e, X⟩ := claim1 k P
      exact ⟨h', row, e, X⟩
    · by_cases hg : got ≤ n
      · by_cases hx : M.av (R.a + 2) = 0
        · obtain ⟨h', e, X⟩ := claim2a k hg hx P
          exact ⟨h', row, e, by simp only [stepR, hg, hx, if_true]; exact X⟩
        · obtain ⟨h', e, X⟩ := claim2b k hg hx P
          exact ⟨h', row, e, by simp only [stepR, hg, hx, if_true, if_false]; exact X⟩
      · by_cases hx : M.lo R.l = -1
        · obtain ⟨h', e, X⟩ := claim2c k hg hx P
          exact ⟨h', row, e, by simp only [stepR, hg, hx, if_true, if_false]; exact X⟩
        · obtain ⟨h', e, X⟩ := claim2d k hg hx P
          exact ⟨h', row, e, by simp only [stepR, hg, hx, if_true, if_false]; exact X⟩
    · by_cases hx : (R.dealt : Int) = n
      · obtain ⟨h', row', e, X⟩ := claim3a k hx P
        exact ⟨h', row', e, by simp only [stepR, hx, if_true]; exact X⟩
      · obtain ⟨h', row', e, X⟩ := claim3b k hx P
        exact ⟨h', row', e, by simp only [stepR, hx, if_false]; exact X⟩
    · obtain ⟨h', row', e, X⟩ := claim4 k hd P
      exact ⟨h', row', e, X⟩
    · obtain ⟨h', row', e, X⟩ := claim5 k qn P
      exact ⟨h', row', e, X⟩
    · by_cases hx : n = -1
      · obtain ⟨h', row', e, X⟩ := claim6a k (qu rfl rfl) hx P
        exact ⟨h', row', e, by simp only [stepR, hx, if_true]; rw [← hx]; exact X⟩
      · obtain ⟨h', row', e, X⟩ := claim6b k (qu rfl rfl) hx P
        exact ⟨h', row', e, by simp only [stepR, hx, if_false]; exact X⟩
  | finish =>
    have hp' : pc = 0 ∨ pc = 1 := by simp only [okPc, mxPc] at hp; omega
    rcases hp' with rfl | rfl
    · by_cases hx : M.av (R.a + 3 + sl R.k n) = 1
      · obtain ⟨h', row', e, X⟩ := finish0b k qn (qv _) (by omega) P
        exact ⟨h', row', e, by simp only [stepR, hx, if_true]; rw [hx] at X; exact X⟩
      · obtain ⟨h', row', e, X⟩ := finish0a k qn (qv _) (by omega) P
        exact ⟨h', row', e, by simp only [stepR, hx, if_true, if_false]; exact X⟩
    · obtain ⟨h', row', e, X⟩ := finish1 k qn P
      exact ⟨h', row', e, X⟩
/-- Step: a step that is not the last one, or is. -/
theorem step_ok (k : Nat) {h : List Row} {M : AM} {row : Tg → Nat} {r rr tt : Nat} {R : RG} (o : RO) (P : RPre h M row r rr tt R (o.cells rr)) (Q : FitsR ⟨M, R, o⟩ tt) (hp : okPc o) (hw : o.w = 0) :
    ∃ h' row', evF cm (k + 116) 25 [.p r 0 0, .p (row .mem) 0 0, .i tt] h 0 = some (.tup [.b (!decide ((stepR ⟨M, R, o⟩ tt).o.w = 0)), .i 0], h') ∧ RRes h M row r rr h' (stepR ⟨M, R, o⟩ tt).M row' (stepR ⟨M, R, o⟩ tt).R ((stepR ⟨M, R, o⟩ tt).o.cells rr) := by
  obtain ⟨h', row', e, X⟩ := next_ok k o P Q hp
  refine ⟨h', row', ?_, X⟩
  have q0 := P.op
  have q1 := X.op
  have hs := fnRS o.kd
  unfold RO.cells opR at q0 q1
  generalize fnR o.kd = fn at *
  generalize (stepR ⟨M, R, o⟩ tt).o.w = w' at *
  rw [evX_fun (m := c25) rfl _ _ _ _ P.mem.ne0 rfl]
  simp -implicitDefEqProofs only [c25, q0, q1, hw, hs, e, call_X, push_cast, Nat.reduceAdd, Nat.reduceMul, Nat.reduceSub, Nat.reduceLT, Nat.reduceLeDiff, Nat.reduceEqDiff, Nat.reducePow, Int.reduceToNat, Int.reduceLT, Int.reduceLE, Int.reduceNeg, Int.reduceEq, Int.reducePow, reduceIte, reduceCtorEq, Int.reduceMul, Int.reduceAdd, Int.reduceSub, Int.reduceMod, Int.reduceDiv, Int.reduceTDiv, Int.reduceTMod, iter_s]
theorem why_ok (k : Nat) {h : List Row} {r rr : Nat} (o : RO) (q0 : rowOf h r 0 = some (o.cells rr)) :
    evF cm (k + 1) 16 [.p r 0 0] h 0 = some (.i o.w, h) := by
  have hn : h.isEmpty = false := by have := rowOf_lt q0; cases h with | nil => simp at this | cons _ _ => rfl
  unfold RO.cells opR at q0
  rw [evX_fun (m := c16) rfl _ _ _ _ hn rfl]
  simp -implicitDefEqProofs only [c16, q0, push_cast, Nat.reduceAdd, Nat.reduceMul, Nat.reduceSub, Nat.reduceLT, Nat.reduceLeDiff, Nat.reduceEqDiff, Nat.reducePow, Int.reduceToNat, Int.reduceLT, Int.reduceLE, Int.reduceNeg, Int.reduceEq, Int.reducePow, reduceIte, reduceCtorEq, Int.reduceMul, Int.reduceAdd, Int.reduceSub, Int.reduceMod, Int.reduceDiv, Int.reduceTDiv, Int.reduceTMod, iter_s]
theorem frame_ok (k : Nat) {h : List Row} {r rr : Nat} (o : RO) (q0 : rowOf h r 0 = some (o.cells rr)) :
    evF cm (k + 1) 17 [.p r 0 0] h 0 = some (.i o.frame, h) := by
  have hn : h.isEmpty = false := by have := rowOf_lt q0; cases h with | nil => simp at this | cons _ _ => rfl
  unfold RO.cells opR at q0
  rw [evX_fun (m := c17) rfl _ _ _ _ hn rfl]
  simp -implicitDefEqProofs only [c17, q0, push_cast, Nat.reduceAdd, Nat.reduceMul, Nat.reduceSub, Nat.reduceLT, Nat.reduceLeDiff, Nat.reduceEqDiff, Nat.reducePow, Int.reduceToNat, Int.reduceLT, Int.reduceLE, Int.reduceNeg, Int.reduceEq, Int.reducePow, reduceIte, reduceCtorEq, Int.reduceMul, Int.reduceAdd, Int.reduceSub, Int.reduceMod, Int.reduceDiv, Int.reduceTDiv, Int.reduceTMod, iter_s]
theorem head_ok (k : Nat) {h : List Row} {rr : Nat} (R : RG) (q0 : rowOf h rr 0 = some R.cells) :
    evF cm (k + 1) 18 [.p rr 0 0] h 0 = some (.i R.head, h) := by
  have hn : h.isEmpty = false := by have := rowOf_lt q0; cases h with | nil => simp at this | cons _ _ => rfl
  unfold RG.cells at q0
  rw [evX_fun (m := c18) rfl _ _ _ _ hn rfl]
  simp -implicitDefEqProofs only [c18, q0, push_cast, Nat.reduceAdd, Nat.reduceMul, Nat.reduceSub, Nat.reduceLT, Nat.reduceLeDiff, Nat.reduceEqDiff, Nat.reducePow, Int.reduceToNat, Int.reduceLT, Int.reduceLE, Int.reduceNeg, Int.reduceEq, Int.reducePow, reduceIte, reduceCtorEq, Int.reduceMul, Int.reduceAdd, Int.reduceSub, Int.reduceMod, Int.reduceDiv, Int.reduceTDiv, Int.reduceTMod, iter_s]
/-! ### an operation, done alone -/
theorem itR_pc {t : Nat} {s : RS} (h : okPc s.o) : ∀ i, okPc (itR t s i).o
  | 0 => h
  | i + 1 => stepR_pc t (itR_pc h i)
theorem RPre.at' {h h1 : List Row} {s : RS} {row row1 : Tg → Nat} {r rr tt : Nat} (P : RPre h s.M row r rr tt s.R (s.o.cells rr)) (i : Nat) (hops : s.M.ops + i < 1000000000) (hcl : s.M.cl.length + s.M.n * i < 900000000) (X : RRes h s.M row r rr h1 (itR tt s i).M row1 (itR tt s i).R ((itR tt s i).o.cells rr)) :
    RPre h1 (itR tt s i).M row1 r rr tt (itR tt s i).R ((itR tt s i).o.cells rr) := by
  obtain ⟨v1, v2, v3, v4, v5, v6, v7, v8, v9, v10, v11⟩ := itR_keep tt s i
  exact ⟨X.mem, X.op, X.rg, X.no, X.nr, X.ne, by rw [v1]; exact P.tt, by rw [v2, v7, v8]; exact P.na, by rw [v3, v7, v9]; exact P.np, by rw [v4, v10]; exact P.nl, by rw [v7]; exact P.k0, by rw [v2, v3, v4]; exact P.big, by rw [v5]; omega, by omega⟩
theorem tl25 {T : List LV} (h : T.length = 25) : T = [getT T 0, getT T 1, getT T 2, getT T 3, getT T 4, getT T 5, getT T 6, getT T 7, getT T 8, getT T 9, getT T 10, getT T 11, getT T 12, getT T 13, getT T 14, getT T 15, getT T 16, getT T 17, getT T 18, getT T 19, getT T 20, getT T 21, getT T 22, getT T 23, getT T 24] := tlT h
def fgR : List Nat := [13, 12, 6, 24, 23, 22, 21, 20, 19, 14, 18, 17, 16, 15, 11, 10]
def SR (h : List Row) (row : Tg → Nat) (r rr tt : Nat) (s0 : RS) (i : Nat) (s : St) : Prop :=
  ∃ T h' row', s = (T, h') ∧ T.length = 25 ∧ getT T 0 = .p r 0 0 ∧ getT T 1 = .p (row .mem) 0 0 ∧ getT T 2 = .i tt ∧ getT T 7 = .i ((i : Int) + 1) ∧ RRes h s0.M row r rr h' (itR tt s0 i).M row' (itR tt s0 i).R ((itR tt s0 i).o.cells rr)
section
variable (K : Nat) {h : List Row} {row : Tg → Nat} {r rr tt : Nat} {s0 : RS}
theorem run_round (P : RPre h s0.M row r rr tt s0.R (s0.o.cells rr)) (hp : okPc s0.o) (m : Nat) (hm : m ≤ 12) (hops : s0.M.ops + 12 < 1000000000) (hcl : s0.M.cl.length + s0.M.n * 12 < 900000000)
    (hf : ∀ i, i < m → FitsR (itR tt s0 i) tt ∧ (itR tt s0 i).o.w = 0) (i : Nat) (s : St) (hi : i < m) (hw : (itR tt s0 (i + 1)).o.w = 0) (hs : SR h row r rr tt s0 i s) :
    ∃ s', evCode (evF cm (K + 116)) (K + 116) 0 c15b0 (cleanN fgR s) = some (.nrm, s') ∧ SR h row r rr tt s0 (i + 1) s' := by
  obtain ⟨T, h1, row1, rfl, ht, t0, t1, t2, t7, X⟩ := hs
  rw [tl25 ht]
  have Pi := P.at' i (by omega) (by have := Nat.mul_le_mul_left s0.M.n (show i ≤ 12 by omega); omega) X
  obtain ⟨h2, row2, e, X2⟩ := step_ok K _ Pi (hf i hi).1 (itR_pc hp i) (hf i hi).2
  rw [X.rm] at e
  have hw' : (stepR (itR tt s0 i) tt).o.w = 0 := hw
  rw [hw'] at e
  simp only [decide_true, Bool.not_true] at e
  have g1 : (i : Int) + 1 ≤ 12 := by omega
  have w1 : IntKind.i64.wrap ((i : Int) + 1 + 1) = ((i + 1 : Nat) : Int) + 1 := by rw [w64 _ (by omega) (by omega)]; omega
  have hne := X.mem.ne0
  simp -implicitDefEqProofs only [c15b0, fgR, t0, t1, t2, t7, g1, w1, e, push_cast, Nat.reduceAdd, Nat.reduceMul, Nat.reduceSub, Nat.reduceLT, Nat.reduceLeDiff, Nat.reduceEqDiff, Nat.reducePow, Int.reduceToNat, Int.reduceLT, Int.reduceLE, Int.reduceNeg, Int.reduceEq, Int.reducePow, reduceIte, reduceCtorEq, Int.reduceMul, Int.reduceAdd, Int.reduceSub, Int.reduceMod, Int.reduceDiv, Int.reduceTDiv, Int.reduceTMod, iter_s]
  exact ⟨_, rfl, _, h2, row2, rfl, rfl, rfl, rfl, rfl, rfl, X.trans X2⟩
def RR (h : List Row) (row : Tg → Nat) (r rr tt : Nat) (s0 : RS) (m : Nat) (s : St) : Prop :=
  ∃ T h' row', s = (T, h') ∧ T.length = 25 ∧ getT T 6 = .i m ∧ RRes h s0.M row r rr h' (itR tt s0 m).M row' (itR tt s0 m).R ((itR tt s0 m).o.cells rr)
theorem run_last (P : RPre h s0.M row r rr tt s0.R (s0.o.cells rr)) (hp : okPc s0.o) (m : Nat) (hm : m ≤ 12) (hops : s0.M.ops + 12 < 1000000000) (hcl : s0.M.cl.length + s0.M.n * 12 < 900000000)
    (hf : ∀ i, i < m → FitsR (itR tt s0 i) tt ∧ (itR tt s0 i).o.w = 0) (hl : (itR tt s0 m).o.w ≠ 0) (i : Nat) (s : St) (hi : i + 1 = m) (hs : SR h row r rr tt s0 i s) :
    ∃ s', evCode (evF cm (K + 116)) (K + 116) 0 c15b0 (cleanN fgR s) = some (.ret, s') ∧ RR h row r rr tt s0 m s' := by
  obtain ⟨T, h1, row1, rfl, ht, t0, t1, t2, t7, X⟩ := hs
  rw [tl25 ht]
  have Pi := P.at' i (by omega) (by have := Nat.mul_le_mul_left s0.M.n (show i ≤ 12 by omega); omega) X
  obtain ⟨h2, row2, e, X2⟩ := step_ok K _ Pi (hf i (by omega)).1 (itR_pc hp i) (hf i (by omega)).2
  rw [X.rm] at e
  subst hi
  have hw' : ¬ (stepR (itR tt s0 i) tt).o.w = 0 := hl
  rw [decide_eq_false hw'] at e
  simp only [Bool.not_false] at e
  have g1 : (i : Int) + 1 ≤ 12 := by omega
  have w1 : (i : Int) + 1 = ((i + 1 : Nat) : Int) := by omega
  have hne := X.mem.ne0
  simp -implicitDefEqProofs only [c15b0, fgR, t0, t1, t2, t7, g1, e, push_cast, Nat.reduceAdd, Nat.reduceMul, Nat.reduceSub, Nat.reduceLT, Nat.reduceLeDiff, Nat.reduceEqDiff, Nat.reducePow, Int.reduceToNat, Int.reduceLT, Int.reduceLE, Int.reduceNeg, Int.reduceEq, Int.reducePow, reduceIte, reduceCtorEq, Int.reduceMul, Int.reduceAdd, Int.reduceSub, Int.reduceMod, Int.reduceDiv, Int.reduceTDiv, Int.reduceTMod, iter_s]
  exact ⟨_, rfl, _, h2, row2, rfl, rfl, rfl, X.trans X2⟩
theorem run_stop (i : Nat) (s : St) (hi : i = 12) (hs : SR h row r rr tt s0 i s) :
    ∃ s', evCode (evF cm (K + 116)) (K + 116) 0 c15b0 (cleanN fgR s) = some (.exit 0, s') ∧ SR h row r rr tt s0 i s' := by
  obtain ⟨T, h1, row1, rfl, ht, t0, t1, t2, t7, X⟩ := hs
  rw [tl25 ht]
  have g1 : ¬ (i : Int) + 1 ≤ 12 := by omega
  have hne := X.mem.ne0
  simp -implicitDefEqProofs only [c15b0, fgR, t0, t1, t2, t7, g1, push_cast, Nat.reduceAdd, Nat.reduceMul, Nat.reduceSub, Nat.reduceLT, Nat.reduceLeDiff, Nat.reduceEqDiff, Nat.reducePow, Int.reduceToNat, Int.reduceLT, Int.reduceLE, Int.reduceNeg, Int.reduceEq, Int.reducePow, reduceIte, reduceCtorEq, Int.reduceMul, Int.reduceAdd, Int.reduceSub, Int.reduceMod, Int.reduceDiv, Int.reduceTDiv, Int.reduceTMod, iter_s]
  exact ⟨_, rfl, _, h1, row1, rfl, rfl, rfl, rfl, rfl, rfl, X⟩
/-- An operation that is done alone, in m steps. -/
theorem run_ok (P : RPre h s0.M row r rr tt s0.R (s0.o.cells rr)) (hp : okPc s0.o) (m : Nat) (hm : m ≤ 12) (hm0 : 0 < m) (hops : s0.M.ops + 12 < 1000000000) (hcl : s0.M.cl.length + s0.M.n * 12 < 900000000)
    (hf : ∀ i, i < m → FitsR (itR tt s0 i) tt ∧ (itR tt s0 i).o.w = 0) (hl : (itR tt s0 m).o.w ≠ 0) :
    ∃ h' row', evF cm (K + 140) 15 [.p r 0 0, .p (row .mem) 0 0, .i tt] h 0 = some (.i m, h') ∧ RRes h s0.M row r rr h' (itR tt s0 m).M row' (itR tt s0 m).R ((itR tt s0 m).o.cells rr) := by
  have key : ∀ s I, iter (evCode (evF cm (K + 139)) (K + 139) 0 c15b0) (cleanN fgR) (K + 139) s = I → SR h row r rr tt s0 0 s → ∃ s', I = some (.ret, s') ∧ RR h row r rr tt s0 m s' := by
    intro s I hI hs
    have hh := iter_until (Re := fun _ => False) (e := 0) (S := fun i s => i < m ∧ SR h row r rr tt s0 i s) (fun i s hi hs => by
      by_cases hl' : i + 1 = m
      · exact .inr (run_last (K + 23) P hp m hm hops hcl hf hl i s hl' hs.2)
      · obtain ⟨s', h1, h2⟩ := run_round (K + 23) P hp m hm hops hcl hf i s hi (hf (i + 1) (by omega)).2 hs.2
        exact .inl ⟨s', h1, by omega, h2⟩) (fun s hs => absurd hs.1 (Nat.lt_irrefl _)) m 0 s (K + 139) (by omega) (by omega) ⟨hm0, hs⟩
    rcases hh with ⟨_, _, hf⟩ | ⟨s', h1, h2⟩
    · exact hf.elim
    · exact ⟨s', hI ▸ h1, h2⟩
  rw [evX_fun (m := c15) rfl _ _ _ _ P.mem.ne0 rfl]
  simp -implicitDefEqProofs only [c15, push_cast, Nat.reduceAdd, Nat.reduceMul, Nat.reduceSub, Nat.reduceLT, Nat.reduceLeDiff, Nat.reduceEqDiff, Nat.reducePow, Int.reduceToNat, Int.reduceLT, Int.reduceLE, Int.reduceNeg, Int.reduceEq, Int.reducePow, reduceIte, reduceCtorEq, Int.reduceMul, Int.reduceAdd, Int.reduceSub, Int.reduceMod, Int.reduceDiv, Int.reduceTDiv, Int.reduceTMod]
  generalize hI : iter _ _ _ _ = I
  obtain ⟨s', hI2, T, h', row', rfl, ht, t6, R⟩ := key _ _ hI ⟨_, h, row, rfl, rfl, rfl, rfl, rfl, rfl, P.start⟩
  subst hI2
  refine ⟨h', row', ?_, R⟩
  rw [tl25 ht]
  simp -implicitDefEqProofs only [t6, push_cast, Nat.reduceAdd, Nat.reduceMul, Nat.reduceSub, Nat.reduceLT, Nat.reduceLeDiff, Nat.reduceEqDiff, Nat.reducePow, Int.reduceToNat, Int.reduceLT, Int.reduceLE, Int.reduceNeg, Int.reduceEq, Int.reducePow, reduceIte, reduceCtorEq, Int.reduceMul, Int.reduceAdd, Int.reduceSub, Int.reduceMod, Int.reduceDiv, Int.reduceTDiv, Int.reduceTMod]
/-- An operation that does not end. -/
theorem run_full (P : RPre h s0.M row r rr tt s0.R (s0.o.cells rr)) (hp : okPc s0.o) (hops : s0.M.ops + 12 < 1000000000) (hcl : s0.M.cl.length + s0.M.n * 12 < 900000000)
    (hf : ∀ i, i < 12 → FitsR (itR tt s0 i) tt ∧ (itR tt s0 i).o.w = 0) (hl : (itR tt s0 12).o.w = 0) :
    ∃ h' row', evF cm (K + 140) 15 [.p r 0 0, .p (row .mem) 0 0, .i tt] h 0 = some (.i (-2), h') ∧ RRes h s0.M row r rr h' (itR tt s0 12).M row' (itR tt s0 12).R ((itR tt s0 12).o.cells rr) := by
  have key : ∀ s I, iter (evCode (evF cm (K + 139)) (K + 139) 0 c15b0) (cleanN fgR) (K + 139) s = I → SR h row r rr tt s0 0 s → ∃ s', I = some (.exit 0, s') ∧ SR h row r rr tt s0 12 s' := by
    intro s I hI hs
    obtain ⟨s', h1, h2⟩ := iter_count (S := SR h row r rr tt s0) (e := 0) (fun i s hi hs => run_round (K + 23) P hp 12 (by omega) hops hcl hf i s hi (by
      by_cases hl' : i + 1 = 12
      · rw [hl']; exact hl
      · exact (hf (i + 1) (by omega)).2) hs) (fun s hs => run_stop (K + 23) 12 s rfl hs) 12 0 s (K + 139) (by omega) (by omega) hs
    exact ⟨s', hI.symm.trans h1, h2⟩
  rw [evX_fun (m := c15) rfl _ _ _ _ P.mem.ne0 rfl]
  simp -implicitDefEqProofs only [c15, push_cast, Nat.reduceAdd, Nat.reduceMul, Nat.reduceSub, Nat.reduceLT, Nat.reduceLeDiff, Nat.reduceEqDiff, Nat.reducePow, Int.reduceToNat, Int.reduceLT, Int.reduceLE, Int.reduceNeg, Int.reduceEq, Int.reducePow, reduceIte, reduceCtorEq, Int.reduceMul, Int.reduceAdd, Int.reduceSub, Int.reduceMod, Int.reduceDiv, Int.reduceTDiv, Int.reduceTMod]
  generalize hI : iter _ _ _ _ = I
  obtain ⟨s', hI2, T, h', row', rfl, ht, t0, t1, t2, t7, R⟩ := key _ _ hI ⟨_, h, row, rfl, rfl, rfl, rfl, rfl, rfl, P.start⟩
  subst hI2
  refine ⟨h', row', ?_, R⟩
  rw [tl25 ht]
  simp -implicitDefEqProofs only [push_cast, Nat.reduceAdd, Nat.reduceMul, Nat.reduceSub, Nat.reduceLT, Nat.reduceLeDiff, Nat.reduceEqDiff, Nat.reducePow, Int.reduceToNat, Int.reduceLT, Int.reduceLE, Int.reduceNeg, Int.reduceEq, Int.reducePow, reduceIte, reduceCtorEq, Int.reduceMul, Int.reduceAdd, Int.reduceSub, Int.reduceMod, Int.reduceDiv, Int.reduceTDiv, Int.reduceTMod]
end
end Go.Proofs.Ytcmlnjkbdlakfaa
