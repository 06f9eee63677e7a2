/- A crew is made, as the evaluator answers: a round. -/
import Derived.Test.YtnnpkpceodpfhaaCA
set_option linter.unusedSimpArgs false
set_option linter.unusedVariables false
set_option linter.unusedSectionVars false
set_option maxRecDepth 100000
set_option maxHeartbeats 16000000
namespace Go.Proofs.Ytnnpkpceodpfhaa
open Go
def dqL (a0 e t : Nat) : Nat → List LV
  | 0 => []
  | i + 1 => dqL a0 e t i ++ [.i ((a0 + i * e : Nat) : Int), .i (t : Int)]
theorem dqL_len (a0 e t : Nat) : ∀ i, (dqL a0 e t i).length = i * 2
  | 0 => rfl
  | i + 1 => by simp only [dqL, List.length_append, dqL_len a0 e t i]; simp; omega
theorem dqL_last (a0 e t i : Nat) : ((dqL a0 e t (i + 1)).drop (i * 2)).take 2 = [.i ((a0 + i * e : Nat) : Int), .i (t : Int)] := by
  simp only [dqL]
  rw [List.drop_append_of_le_length (by rw [dqL_len]; exact Nat.le_refl _), List.drop_of_length_le (by rw [dqL_len]; exact Nat.le_refl _)]
  rfl
theorem dqL_atom (a0 e t : Nat) : ∀ i, (dqL a0 e t i).all atomB = true
  | 0 => rfl
  | i + 1 => by simp [dqL, dqL_atom a0 e t i, atomB, Value.oneCell']
def wkL (wr : Nat → Nat) : Nat → List LV
  | 0 => []
  | i + 1 => wkL wr i ++ [.p (wr i) 0 0]
theorem wkL_len (wr : Nat → Nat) : ∀ i, (wkL wr i).length = i
  | 0 => rfl
  | i + 1 => by simp only [wkL, List.length_append, wkL_len wr i]; rfl
theorem wkL_get (wr : Nat → Nat) : ∀ (i j : Nat), j < i → (wkL wr i)[j]? = some (.p (wr j) 0 0)
  | 0, j, h => by omega
  | i + 1, j, h => by
    simp only [wkL]
    by_cases hj : j < i
    · rw [List.getElem?_append_left (by rw [wkL_len]; exact hj)]; exact wkL_get wr i j hj
    · have : j = i := by omega
      subst this
      rw [List.getElem?_append_right (by rw [wkL_len]; exact Nat.le_refl _), wkL_len]; simp
theorem wkL_congr {f g : Nat → Nat} : ∀ (i : Nat), (∀ j, j < i → f j = g j) → wkL f i = wkL g i
  | 0, _ => rfl
  | i + 1, h => by simp only [wkL]; rw [wkL_congr i fun j hj => h j (by omega), h i (by omega)]
/-- A crew, of which some workers have been made. -/
structure CI (h : List Row) (M : AM) (row : Tg → Nat) (k t a0 rc rd rk : Nat) (wr : Nat → Nat) (i : Nat) : Prop where
  mem : MemAt h M row
  rm : row .mem = 4
  own : ∀ j, own M row j → 0 < j ∧ j < rc
  lc : rc < h.length
  ring : rowOf h 0 0 = some [.i k, .i 0, .i 0, .i 0, .i 0, .i 0]
  rc0 : 0 < rc
  crew : rowOf h rc 0 = some (crewC 4 0 k t ((k + 1 : Nat) : Int) (outG 2 rd i) (outG 1 rk i) .nils)
  deq : 0 < i → rowOf h rd (i - 1) = some (dqL a0 (t + 2) t i) ∧ rc < rd ∧ rd ≠ rk
  wk : 0 < i → rowOf h rk (i - 1) = some (wkL wr i) ∧ rc < rk
def fgC : List Nat := [109, 108, 107, 106, 105, 104, 103, 102, 101, 100, 99, 98, 97, 96, 95, 94, 93, 92, 91, 90, 89, 88, 87, 86, 85, 84, 83, 82, 81, 80, 79, 78, 77, 76, 75]
theorem tl111 {T : List LV} (h : T.length = 111) : T = [getT T 0, getT T 1, getT T 2, getT T 3, getT T 4, getT T 5, getT T 6, getT T 7, getT T 8, getT T 9, getT T 10, getT T 11, getT T 12, getT T 13, getT T 14, getT T 15, getT T 16, getT T 17, getT T 18, getT T 19, getT T 20, getT T 21, getT T 22, getT T 23, getT T 24, getT T 25, getT T 26, getT T 27, getT T 28, getT T 29, getT T 30, getT T 31, getT T 32, getT T 33, getT T 34, getT T 35, getT T 36, getT T 37, getT T 38, getT T 39, getT T 40, getT T 41, getT T 42, getT T 43, getT T 44, getT T 45, getT T 46, getT T 47, getT T 48, getT T 49, getT T 50, getT T 51, getT T 52, getT T 53, getT T 54, getT T 55, getT T 56, getT T 57, getT T 58, getT T 59, getT T 60, getT T 61, getT T 62, getT T 63, getT T 64, getT T 65, getT T 66, getT T 67, getT T 68, getT T 69, getT T 70, getT T 71, getT T 72, getT T 73, getT T 74, getT T 75, getT T 76, getT T 77, getT T 78, getT T 79, getT T 80, getT T 81, getT T 82, getT T 83, getT T 84, getT T 85, getT T 86, getT T 87, getT T 88, getT T 89, getT T 90, getT T 91, getT T 92, getT T 93, getT T 94, getT T 95, getT T 96, getT T 97, getT T 98, getT T 99, getT T 100, getT T 101, getT T 102, getT T 103, getT T 104, getT T 105, getT T 106, getT T 107, getT T 108, getT T 109, getT T 110] := tlT h
def SC (M : AM) (row : Tg → Nat) (k t w a0 rc : Nat) (i : Nat) (s : St) : Prop := ∃ T h rd rk wr, s = (T, h) ∧ CI h M row k t a0 rc rd rk wr i ∧ T.length = 111 ∧ getT T 2 = .i t ∧ getT T 12 = .i a0 ∧ getT T 14 = .i ((t + 2 : Nat) : Int) ∧ getT T 16 = .p rc 0 0 ∧ getT T 73 = .i w ∧ getT T 74 = .i i
theorem new_round (K : Nat) (M : AM) (row : Tg → Nat) (k t w a0 rc : Nat) (ht : t ≤ 256) (hw : w ≤ 64) (ha : a0 ≤ 100) (i : Nat) (s : St) (hi : i < w) (hs : SC M row k t w a0 rc i s) :
    ∃ s', evCode (evF cm (K + 10)) (K + 10) 0 c5b0 (cleanN fgC s) = some (.nrm, s') ∧ SC M row k t w a0 rc (i + 1) s' := by
  obtain ⟨T, h, rd, rk, wr, rfl, I, hT, t2, t12, t14, t16, t73, t74⟩ := hs
  rw [tl111 hT]
  have hb : i * (t + 2) ≤ 64 * 258 := Nat.mul_le_mul (by omega) (by omega)
  have g1 : (i : Int) < (w : Int) := by omega
  have w1 : IntKind.i64.wrap ((i : Int) * ((t + 2 : Nat) : Int)) = ((i * (t + 2) : Nat) : Int) := by
    rw [← Int.natCast_mul, w64 _ (by omega) (by omega)]
  have w2 : IntKind.i64.wrap ((a0 : Int) + ((i * (t + 2) : Nat) : Int)) = ((a0 + i * (t + 2) : Nat) : Int) := by rw [w64 _ (by omega) (by omega)]; omega
  have w3 : IntKind.i64.wrap ((i : Int) + 1) = ((i + 1 : Nat) : Int) := by rw [w64 _ (by omega) (by omega)]; omega
  have hc := I.crew
  have lc := I.lc
  cases i with
  | zero =>
    simp only [outG] at hc
    have p00 : ∀ a : Nat, a = a0 + 0 * (t + 2) → a = a0 := fun a h => by omega
    have w2' : IntKind.i64.wrap ((a0 : Int) + ((0 * (t + 2) : Nat) : Int)) = (a0 : Int) := by rw [w2]; omega
    have hdL : dqL a0 (t + 2) t (0 + 1) = [.i (a0 : Int), .i (t : Int)] := by simp [dqL]
    have hlast : List.take 2 (List.drop (0 * 2) (dqL a0 (t + 2) t (0 + 1))) = [.i (a0 : Int), .i (t : Int)] := by rw [hdL]; rfl
    have f1 : ∀ x : Row, rowOf (h ++ [x]) rc 0 = rowOf h rc 0 := fun x => rowOf_app_lt lc
    let H3 : List Row := (h ++ [(⟨0, [.i (a0 : Int), .i (t : Int)]⟩ : Row)]).set rc ⟨0, crewC 4 0 k t ((k + 1 : Nat) : Int) (.sl h.length 0 0 1 2 1) .nils .nils⟩ ++ [(⟨0, workC rc ((0 : Nat) : Int) (.v .nilFunc) (.v (.pointer none))⟩ : Row)]
    have l3 : H3.length = h.length + 2 := by simp [H3]
    have p1 : rowOf H3 (h.length + 1) 0 = some (workC rc ((0 : Nat) : Int) (.v .nilFunc) (.v (.pointer none))) := by
      have := rowOf_app_eq (h := (h ++ [(⟨0, [.i (a0 : Int), .i (t : Int)]⟩ : Row)]).set rc ⟨0, crewC 4 0 k t ((k + 1 : Nat) : Int) (.sl h.length 0 0 1 2 1) .nils .nils⟩) (t := []) (v := 0) (cs := workC rc ((0 : Nat) : Int) (.v .nilFunc) (.v (.pointer none)))
      simp only [List.length_set, List.length_append, List.length_cons, List.length_nil] at this
      exact this
    have p2 : rowOf H3 rc 0 = some (crewC 4 0 k t ((k + 1 : Nat) : Int) (.sl h.length 0 0 1 2 1) .nils .nils) := by
      show rowOf (_ ++ _) _ _ = _
      rw [rowOf_app_lt (by simp; omega)]
      exact rowOf_set_eq (by simp; omega)
    have p3 : rowOf H3 h.length 0 = some (dqL a0 (t + 2) t (0 + 1)) := by
      show rowOf (_ ++ _) _ _ = _
      rw [rowOf_app_lt (by simp), rowOf_set_ne (by omega), hdL]
      exact rowOf_app_eq
    have p5 : ∀ b, b < rc → H3[b]? = h[b]? := fun b hb => by
      show (_ ++ _)[b]? = _
      rw [List.getElem?_append_left (by simp; omega), List.getElem?_set_ne (by omega), List.getElem?_append_left (by omega)]
    have e4 := fun k => wpop_ok k H3 (h.length + 1) rc h.length 4 0 0 1 1 0 _ _ _ a0 t _ _ _ _ _ (by omega) p1 p2 p3 (by rw [dqL_len]; omega) hlast
    obtain ⟨H4, hH4⟩ : ∃ H4, (H3 ++ [(⟨0, [.i a0, .i t]⟩ : Row), (⟨0, popC a0 t⟩ : Row)]).set (h.length + 1) ⟨0, workC rc ((0 : Nat) : Int) (.f 31 []) (.p (H3.length + 1) 0 0)⟩ = H4 := ⟨_, rfl⟩
    have l4 : H4.length = h.length + 4 := by rw [← hH4]; simp [l3]
    have r1 : rowOf H4 rc 0 = some (crewC 4 0 k t ((k + 1 : Nat) : Int) (.sl h.length 0 0 1 2 1) .nils .nils) := by
      rw [← hH4, rowOf_set_ne (by omega), rowOf_app_lt (by omega)]; exact p2
    have r3 : rowOf H4 h.length 0 = some (dqL a0 (t + 2) t (0 + 1)) := by
      rw [← hH4, rowOf_set_ne (by omega), rowOf_app_lt (by omega)]; exact p3
    have r5 : ∀ b, b < rc → H4[b]? = h[b]? := fun b hb => by
      rw [← hH4, List.getElem?_set_ne (by omega), List.getElem?_append_left (by omega)]; exact p5 b hb
    rw [hH4] at e4
    have f2 : ∀ x : Row, rowOf (H4 ++ [x]) rc 0 = rowOf H4 rc 0 := fun x => rowOf_app_lt (by omega)
    have z0 : ((0 : Nat) : Int) = 0 := rfl
    have w3' : IntKind.i64.wrap ((0 : Int) + 1) = 1 := rfl
    have w1' : IntKind.i64.wrap ((0 : Int) * ((t + 2 : Nat) : Int)) = 0 := by rw [Int.zero_mul]; rfl
    have w4' : IntKind.i64.wrap ((a0 : Int) + 0) = (a0 : Int) := w64 _ (by omega) (by omega)
    simp only [H3, crewC, workC] at e4
    simp only [crewC] at hc r1
    simp only [z0] at *
    generalize ht2 : ((t + 2 : Nat) : Int) = t2' at *
    generalize hk1 : ((k + 1 : Nat) : Int) = k1' at *
    simp -implicitDefEqProofs (maxSteps := 1000000) only [c5b0, fgC, t2, t12, t14, t16, t73, t74, g1, w1', w3', w4', hc, f1, f2, e4, r1, l4, evX_P, evX_N, List.length_set, List.length_append, push_cast, Nat.reduceAdd, Nat.reduceMul, Nat.reduceSub, Nat.reduceLT, Nat.reduceLeDiff, Nat.reduceEqDiff, Nat.reducePow, Int.reduceToNat, Int.reduceLT, Int.reduceLE, Int.reduceNeg, Int.reduceEq, Int.reducePow, reduceIte, reduceCtorEq, Int.reduceMul, Int.reduceAdd, Int.reduceSub, Int.reduceMod, Int.reduceDiv, Int.reduceTDiv, Int.reduceTMod, iter_s]
    subst ht2 hk1
    refine ⟨_, rfl, _, _, h.length, h.length + 4, fun _ => h.length + 1, rfl, ?_, rfl, rfl, rfl, rfl, rfl, rfl, rfl⟩
    have hb' : ∀ b, b < rc → ((H4 ++ [(⟨0, [.p (h.length + 1) 0 0]⟩ : Row)]).set rc ⟨0, [.p 4 0 0, .p 0 0 0, .i k, .i t, .i ((k + 1 : Nat) : Int), .sl h.length 0 0 1 2 1, .sl (h.length + 4) 0 0 1 1 1, .nils, .v .nilFunc]⟩)[b]? = h[b]? := fun b hb => by
      rw [List.getElem?_set_ne (by omega), List.getElem?_append_left (by omega)]; exact r5 b hb
    refine ⟨I.mem.keep fun b hb => hb' b (I.own b hb).2, I.rm, I.own, by simp; omega, ?_, I.rc0, rowOf_set_eq (by simp; omega), fun _ => ⟨?_, lc, by omega⟩, fun _ => ⟨?_, by omega⟩⟩
    · have := I.ring
      have e0 := hb' 0 I.rc0
      unfold rowOf at this ⊢
      rw [e0]; exact this
    · rw [rowOf_set_ne (by omega), rowOf_app_lt (by omega)]; exact r3
    · rw [rowOf_set_ne (by omega), ← l4]
      exact rowOf_app_eq
  | succ j =>
    obtain ⟨d1, d2, d3⟩ := I.deq (Nat.succ_pos j)
    obtain ⟨k1, k2⟩ := I.wk (Nat.succ_pos j)
    simp only [Nat.add_sub_cancel, outG] at d1 k1 hc
    have ld := rowOf_lt d1
    have lk := rowOf_lt k1
    obtain ⟨a, ha'⟩ : ∃ a : Nat, a = a0 + (j + 1) * (t + 2) := ⟨_, rfl⟩
    rw [← ha'] at w2
    have hdl := dqL_len a0 (t + 2) t (j + 1)
    have hdL : dqL a0 (t + 2) t (j + 1 + 1) = dqL a0 (t + 2) t (j + 1) ++ [.i (a : Int), .i (t : Int)] := by rw [ha']; rfl
    have hlast := dqL_last a0 (t + 2) t (j + 1)
    rw [← ha'] at hlast
    have hwl := wkL_len wr (j + 1)
    have nn : ¬ j + 1 + 1 ≤ j + 1 := by omega
    have n2 : j + 1 + 1 ≤ 9223372036854775807 := by omega
    have n3 : (j + 1 + 1) * 16 ≤ 140737488355328 := by omega
    have n4 : (j + 1 + 1) * 8 ≤ 140737488355328 := by omega
    have f1 : ∀ x, rowOf (h.set rd x) rc 0 = rowOf h rc 0 := fun x => rowOf_set_ne (by omega)
    let H3 : List Row := (h.set rd ⟨j + 1, dqL a0 (t + 2) t (j + 1) ++ [.i (a : Int), .i (t : Int)]⟩).set rc ⟨0, crewC 4 0 k t ((k + 1 : Nat) : Int) (.sl rd (j + 1) 0 (j + 1 + 1) 2 (j + 1 + 1)) (.sl rk j 0 (j + 1) 1 (j + 1)) .nils⟩ ++ [⟨0, workC rc ((j + 1 : Nat) : Int) (.v .nilFunc) (.v (.pointer none))⟩]
    have l3 : H3.length = h.length + 1 := by simp [H3]
    have p1 : rowOf H3 h.length 0 = some (workC rc ((j + 1 : Nat) : Int) (.v .nilFunc) (.v (.pointer none))) := by
      have := rowOf_app_eq (h := (h.set rd ⟨j + 1, dqL a0 (t + 2) t (j + 1) ++ [.i (a : Int), .i (t : Int)]⟩).set rc ⟨0, crewC 4 0 k t ((k + 1 : Nat) : Int) (.sl rd (j + 1) 0 (j + 1 + 1) 2 (j + 1 + 1)) (.sl rk j 0 (j + 1) 1 (j + 1)) .nils⟩) (t := []) (v := 0) (cs := workC rc ((j + 1 : Nat) : Int) (.v .nilFunc) (.v (.pointer none)))
      simp only [List.length_set] at this
      exact this
    have p2 : rowOf H3 rc 0 = some (crewC 4 0 k t ((k + 1 : Nat) : Int) (.sl rd (j + 1) 0 (j + 1 + 1) 2 (j + 1 + 1)) (.sl rk j 0 (j + 1) 1 (j + 1)) .nils) := by
      show rowOf (_ ++ _) _ _ = _
      rw [rowOf_app_lt (by simp; omega)]
      exact rowOf_set_eq (by simp; omega)
    have p3 : rowOf H3 rd (j + 1) = some (dqL a0 (t + 2) t (j + 1 + 1)) := by
      show rowOf (_ ++ _) _ _ = _
      rw [rowOf_app_lt (by simp; omega), rowOf_set_ne (by omega), hdL]
      exact rowOf_set_eq ld
    have p4 : rowOf H3 rk j = some (wkL wr (j + 1)) := by
      show rowOf (_ ++ _) _ _ = _
      rw [rowOf_app_lt (by simp; omega), rowOf_set_ne (by omega), rowOf_set_ne d3]
      exact k1
    have p5 : ∀ b, b < rc → H3[b]? = h[b]? := fun b hb => by
      show (_ ++ _)[b]? = _
      rw [List.getElem?_append_left (by simp; omega), List.getElem?_set_ne (by omega), List.getElem?_set_ne (by omega)]
    have e4 := fun k => wpop_ok k H3 h.length rc rd 4 0 (j + 1) (j + 1 + 1) (j + 1 + 1) (j + 1) _ _ _ a t _ _ _ _ _ (by omega) p1 p2 p3 (by rw [dqL_len]; omega) hlast
    obtain ⟨H4, hH4⟩ : ∃ H4, (H3 ++ [(⟨0, [.i a, .i t]⟩ : Row), (⟨0, popC a t⟩ : Row)]).set h.length ⟨0, workC rc ((j + 1 : Nat) : Int) (.f 31 []) (.p (H3.length + 1) 0 0)⟩ = H4 := ⟨_, rfl⟩
    have l4 : H4.length = h.length + 3 := by rw [← hH4]; simp [l3]
    have r1 : rowOf H4 rc 0 = some (crewC 4 0 k t ((k + 1 : Nat) : Int) (.sl rd (j + 1) 0 (j + 1 + 1) 2 (j + 1 + 1)) (.sl rk j 0 (j + 1) 1 (j + 1)) .nils) := by
      rw [← hH4, rowOf_set_ne (by omega), rowOf_app_lt (by omega)]; exact p2
    have r3 : rowOf H4 rd (j + 1) = some (dqL a0 (t + 2) t (j + 1 + 1)) := by
      rw [← hH4, rowOf_set_ne (by omega), rowOf_app_lt (by omega)]; exact p3
    have r4 : rowOf H4 rk j = some (wkL wr (j + 1)) := by
      rw [← hH4, rowOf_set_ne (by omega), rowOf_app_lt (by omega)]; exact p4
    have r5 : ∀ b, b < rc → H4[b]? = h[b]? := fun b hb => by
      rw [← hH4, List.getElem?_set_ne (by omega), List.getElem?_append_left (by omega)]; exact p5 b hb
    rw [hH4] at e4
    have f2 : ∀ x, rowOf (H4.set rk x) rc 0 = rowOf H4 rc 0 := fun x => rowOf_set_ne (by omega)
    simp only [H3, crewC, workC] at e4
    simp only [crewC] at hc r1
    generalize ht2 : ((t + 2 : Nat) : Int) = t2' at *
    generalize hm1 : (((j + 1) * (t + 2) : Nat) : Int) = m1 at *
    generalize hk1 : ((k + 1 : Nat) : Int) = k1' at *
    generalize hj2 : ((j + 1 + 1 : Nat) : Int) = j2 at *
    generalize hj1 : ((j + 1 : Nat) : Int) = j1 at *
    simp -implicitDefEqProofs (maxSteps := 1000000) only [c5b0, fgC, t2, t12, t14, t16, t73, t74, g1, w1, w2, w3, hc, d1, hdl, hwl, nn, n2, n3, n4, f1, f2, e4, r1, r4, evX_P, evX_N, List.length_set, push_cast, Nat.reduceAdd, Nat.reduceMul, Nat.reduceSub, Nat.reduceLT, Nat.reduceLeDiff, Nat.reduceEqDiff, Nat.reducePow, Int.reduceToNat, Int.reduceLT, Int.reduceLE, Int.reduceNeg, Int.reduceEq, Int.reducePow, reduceIte, reduceCtorEq, Int.reduceMul, Int.reduceAdd, Int.reduceSub, Int.reduceMod, Int.reduceDiv, Int.reduceTDiv, Int.reduceTMod, iter_s]
    subst hj2 ht2 hk1
    refine ⟨_, rfl, _, _, rd, rk, fun x => if x = j + 1 then h.length else wr x, rfl, ?_, rfl, rfl, rfl, rfl, rfl, rfl, rfl⟩
    have hb' : ∀ b, b < rc → ((H4.set rk ⟨j + 1, wkL wr (j + 1) ++ [.p h.length 0 0]⟩).set rc ⟨0, [.p 4 0 0, .p 0 0 0, .i k, .i t, .i ((k + 1 : Nat) : Int), .sl rd (j + 1) 0 (j + 1 + 1) 2 (j + 1 + 1), .sl rk (j + 1) 0 (j + 1 + 1) 1 (j + 1 + 1), .nils, .v .nilFunc]⟩)[b]? = h[b]? := fun b hb => by
      rw [List.getElem?_set_ne (by omega), List.getElem?_set_ne (by omega)]; exact r5 b hb
    have hwk : wkL wr (j + 1) ++ [.p h.length 0 0] = wkL (fun x => if x = j + 1 then h.length else wr x) (j + 1 + 1) := by
      show _ = wkL _ (j + 1) ++ _
      rw [wkL_congr (g := wr) (j + 1) fun x hx => if_neg (by omega)]
      simp
    refine ⟨I.mem.keep fun b hb => hb' b (I.own b hb).2, I.rm, I.own, by simp; omega, ?_, I.rc0, rowOf_set_eq (by simp; omega), fun _ => ⟨?_, d2, d3⟩, fun _ => ⟨?_, k2⟩⟩
    · have := I.ring
      have e0 := hb' 0 I.rc0
      unfold rowOf at this ⊢
      rw [e0]; exact this
    · rw [rowOf_set_ne (by omega), rowOf_set_ne (by omega)]; exact r3
    · rw [rowOf_set_ne (by omega), ← hwk]
      exact rowOf_set_eq (by omega)
theorem new_last (K : Nat) (M : AM) (row : Tg → Nat) (k t w a0 rc : Nat) (s : St) (hs : SC M row k t w a0 rc w s) :
    ∃ s', evCode (evF cm K) K 0 c5b0 (cleanN fgC s) = some (.exit 0, s') ∧ SC M row k t w a0 rc w s' := by
  obtain ⟨T, h, rd, rk, wr, rfl, I, hT, t2, t12, t14, t16, t73, t74⟩ := hs
  rw [tl111 hT]
  have g1 : ¬ (w : Int) < (w : Int) := by omega
  simp -implicitDefEqProofs (maxSteps := 1000000) only [c5b0, fgC, t2, t12, t14, t16, t73, t74, g1, push_cast, Nat.reduceAdd, Nat.reduceMul, Nat.reduceSub, Nat.reduceLT, Nat.reduceLeDiff, Nat.reduceEqDiff, Nat.reducePow, Int.reduceToNat, Int.reduceLT, Int.reduceLE, Int.reduceNeg, Int.reduceEq, Int.reducePow, reduceIte, reduceCtorEq, Int.reduceMul, Int.reduceAdd, Int.reduceSub, Int.reduceMod, Int.reduceDiv, Int.reduceTDiv, Int.reduceTMod, iter_s]
  exact ⟨_, rfl, _, _, rd, rk, wr, rfl, I, rfl, rfl, rfl, rfl, rfl, rfl, rfl⟩
theorem need_ok (k : Nat) (n : Nat) (hn : n ≤ 100) : evP (evF cm (k + 1)) 19 [.i n] = some (.tup [.i ((n + 3 : Nat) : Int), .i ((n + 1 : Nat) : Int)]) := by
  have w1 : IntKind.i64.wrap ((n : Int) + 3) = ((n + 3 : Nat) : Int) := by rw [w64 _ (by omega) (by omega)]; omega
  have w2 : IntKind.i64.wrap ((n : Int) + 1) = ((n + 1 : Nat) : Int) := by rw [w64 _ (by omega) (by omega)]; omega
  generalize ((n + 3 : Nat) : Int) = a at *
  generalize ((n + 1 : Nat) : Int) = b at *
  rw [evP_fun (m := c19) rfl _ _ rfl]
  simp -implicitDefEqProofs only [c19, w1, w2, push_cast, Nat.reduceAdd, Nat.reduceMul, Nat.reduceSub, Nat.reduceLT, Nat.reduceLeDiff, Nat.reduceEqDiff, Nat.reducePow, Int.reduceToNat, Int.reduceLT, Int.reduceLE, Int.reduceNeg, Int.reduceEq, Int.reducePow, reduceIte, reduceCtorEq, Int.reduceMul, Int.reduceAdd, Int.reduceSub, Int.reduceMod, Int.reduceDiv, Int.reduceTDiv, Int.reduceTMod, iter_s]
theorem dneed_ok (k : Nat) (n : Nat) (hn : n ≤ 1000) : evP (evF cm (k + 1)) 20 [.i n] = some (.i ((n + 2 : Nat) : Int)) := by
  have w1 : IntKind.i64.wrap ((n : Int) + 2) = ((n + 2 : Nat) : Int) := by rw [w64 _ (by omega) (by omega)]; omega
  generalize ((n + 2 : Nat) : Int) = a at *
  rw [evP_fun (m := c20) rfl _ _ rfl]
  simp -implicitDefEqProofs only [c20, w1, push_cast, Nat.reduceAdd, Nat.reduceMul, Nat.reduceSub, Nat.reduceLT, Nat.reduceLeDiff, Nat.reduceEqDiff, Nat.reducePow, Int.reduceToNat, Int.reduceLT, Int.reduceLE, Int.reduceNeg, Int.reduceEq, Int.reducePow, reduceIte, reduceCtorEq, Int.reduceMul, Int.reduceAdd, Int.reduceSub, Int.reduceMod, Int.reduceDiv, Int.reduceTDiv, Int.reduceTMod, iter_s]
theorem rnew_no (k : Nat) (K : Int) (h : K < 1 ∨ 8 < K) : evP (evF cm (k + 1)) 18 [.i K, .i 0, .i 0, .i 0] = some (.tup [.v (.pointer none), .i 2]) := by
  rw [evP_fun (m := c18) rfl _ _ rfl]
  by_cases h1 : K < 1
  · simp -implicitDefEqProofs only [c18, h1, push_cast, Nat.reduceAdd, Nat.reduceMul, Nat.reduceSub, Nat.reduceLT, Nat.reduceLeDiff, Nat.reduceEqDiff, Nat.reducePow, Int.reduceToNat, Int.reduceLT, Int.reduceLE, Int.reduceNeg, Int.reduceEq, Int.reducePow, reduceIte, reduceCtorEq, Int.reduceMul, Int.reduceAdd, Int.reduceSub, Int.reduceMod, Int.reduceDiv, Int.reduceTDiv, Int.reduceTMod, iter_s]
  · have h2 : 8 < K := by omega
    simp -implicitDefEqProofs only [c18, h1, h2, push_cast, Nat.reduceAdd, Nat.reduceMul, Nat.reduceSub, Nat.reduceLT, Nat.reduceLeDiff, Nat.reduceEqDiff, Nat.reducePow, Int.reduceToNat, Int.reduceLT, Int.reduceLE, Int.reduceNeg, Int.reduceEq, Int.reducePow, reduceIte, reduceCtorEq, Int.reduceMul, Int.reduceAdd, Int.reduceSub, Int.reduceMod, Int.reduceDiv, Int.reduceTDiv, Int.reduceTMod, iter_s]
theorem rnew_ok (k : Nat) (K : Int) (h : 1 ≤ K ∧ K ≤ 8) : evF cm (k + 1) 18 [.i K, .i 0, .i 0, .i 0] [] 0 = some (.tup [.p 0 0 0, .i 0], [⟨0, [.i K, .i 0, .i 0, .i 0, .i 0, .i 0]⟩]) := by
  have h1 : ¬ K < 1 := by omega
  have h2 : ¬ 8 < K := by omega
  rw [evH_fun (m := c18) rfl _ _ _ _ rfl]
  simp -implicitDefEqProofs only [c18, h1, h2, push_cast, Nat.reduceAdd, Nat.reduceMul, Nat.reduceSub, Nat.reduceLT, Nat.reduceLeDiff, Nat.reduceEqDiff, Nat.reducePow, Int.reduceToNat, Int.reduceLT, Int.reduceLE, Int.reduceNeg, Int.reduceEq, Int.reducePow, reduceIte, reduceCtorEq, Int.reduceMul, Int.reduceAdd, Int.reduceSub, Int.reduceMod, Int.reduceDiv, Int.reduceTDiv, Int.reduceTMod, iter_s]
/-- What may not be a crew is none. -/
theorem cnew_no (k : Nat) (a b c : Int) (h : a < 1 ∨ 8 < a ∨ b < 1 ∨ 64 < b ∨ c < 1 ∨ 256 < c) : evP (evF cm (k + 2)) 5 [.i a, .i b, .i c, .v .nilFunc] = some (.tup [.v (.pointer none), .i 2]) := by
  rw [evP_fun (m := c5) rfl _ _ rfl]
  by_cases h1 : b < 1
  · simp -implicitDefEqProofs only [c5, h1, push_cast, Nat.reduceAdd, Nat.reduceMul, Nat.reduceSub, Nat.reduceLT, Nat.reduceLeDiff, Nat.reduceEqDiff, Nat.reducePow, Int.reduceToNat, Int.reduceLT, Int.reduceLE, Int.reduceNeg, Int.reduceEq, Int.reducePow, reduceIte, reduceCtorEq, Int.reduceMul, Int.reduceAdd, Int.reduceSub, Int.reduceMod, Int.reduceDiv, Int.reduceTDiv, Int.reduceTMod, iter_s]
  by_cases h2 : 64 < b
  · simp -implicitDefEqProofs only [c5, h1, h2, push_cast, Nat.reduceAdd, Nat.reduceMul, Nat.reduceSub, Nat.reduceLT, Nat.reduceLeDiff, Nat.reduceEqDiff, Nat.reducePow, Int.reduceToNat, Int.reduceLT, Int.reduceLE, Int.reduceNeg, Int.reduceEq, Int.reducePow, reduceIte, reduceCtorEq, Int.reduceMul, Int.reduceAdd, Int.reduceSub, Int.reduceMod, Int.reduceDiv, Int.reduceTDiv, Int.reduceTMod, iter_s]
  by_cases h3 : c < 1
  · simp -implicitDefEqProofs only [c5, h1, h2, h3, push_cast, Nat.reduceAdd, Nat.reduceMul, Nat.reduceSub, Nat.reduceLT, Nat.reduceLeDiff, Nat.reduceEqDiff, Nat.reducePow, Int.reduceToNat, Int.reduceLT, Int.reduceLE, Int.reduceNeg, Int.reduceEq, Int.reducePow, reduceIte, reduceCtorEq, Int.reduceMul, Int.reduceAdd, Int.reduceSub, Int.reduceMod, Int.reduceDiv, Int.reduceTDiv, Int.reduceTMod, iter_s]
  by_cases h4 : 256 < c
  · simp -implicitDefEqProofs only [c5, h1, h2, h3, h4, push_cast, Nat.reduceAdd, Nat.reduceMul, Nat.reduceSub, Nat.reduceLT, Nat.reduceLeDiff, Nat.reduceEqDiff, Nat.reducePow, Int.reduceToNat, Int.reduceLT, Int.reduceLE, Int.reduceNeg, Int.reduceEq, Int.reducePow, reduceIte, reduceCtorEq, Int.reduceMul, Int.reduceAdd, Int.reduceSub, Int.reduceMod, Int.reduceDiv, Int.reduceTDiv, Int.reduceTMod, iter_s]
  have e := fun k => rnew_no k a (by omega)
  simp -implicitDefEqProofs only [c5, h1, h2, h3, h4, e, push_cast, Nat.reduceAdd, Nat.reduceMul, Nat.reduceSub, Nat.reduceLT, Nat.reduceLeDiff, Nat.reduceEqDiff, Nat.reducePow, Int.reduceToNat, Int.reduceLT, Int.reduceLE, Int.reduceNeg, Int.reduceEq, Int.reducePow, reduceIte, reduceCtorEq, Int.reduceMul, Int.reduceAdd, Int.reduceSub, Int.reduceMod, Int.reduceDiv, Int.reduceTDiv, Int.reduceTMod, iter_s]
/-- A crew is made in an empty heap. -/
theorem cnew_ok (n : Nat) (k w t : Nat) (hk : 0 < k ∧ k ≤ 8) (hw : 0 < w ∧ w ≤ 64) (ht : 0 < t ∧ t ≤ 256) :
    ∃ h M row rc rd rk wr, evF cm (n + 300) 5 [.i k, .i w, .i t, .v .nilFunc] [] 0 = some (.tup [.p rc 0 0, .i 0], h) ∧ CI h M row k t (k + 3) rc rd rk wr w ∧ M.n = w + 1 ∧ M.np = k + 1 + t ∧ M.ops = 0 ∧ M.cl = [] := by
  have h1 : ¬ (w : Int) < 1 := by omega
  have h2 : ¬ 64 < (w : Int) := by omega
  have h3 : ¬ (t : Int) < 1 := by omega
  have h4 : ¬ 256 < (t : Int) := by omega
  have en := fun a => rnew_ok a k (by omega)
  have enp : ∀ a, evP (evF cm (a + 1)) 18 [.i k, .i 0, .i 0, .i 0] = none := fun a => by unfold evP; rw [en]; rfl
  have e1 := fun a => need_ok a k (by omega)
  have e2 := fun a => dneed_ok a t (by omega)
  have hb : w * (t + 2) ≤ 64 * 258 := Nat.mul_le_mul (by omega) (by omega)
  obtain ⟨na, hna⟩ : ∃ na : Nat, na = k + 3 + w * (t + 2) := ⟨_, rfl⟩
  obtain ⟨np, hnp⟩ : ∃ np : Nat, np = k + 1 + t := ⟨_, rfl⟩
  have u1 : IntKind.i64.wrap ((w : Int) + 1) = ((w + 1 : Nat) : Int) := by rw [w64 _ (by omega) (by omega)]; omega
  have u2 : IntKind.i64.wrap ((w : Int) * ((t + 2 : Nat) : Int)) = ((w * (t + 2) : Nat) : Int) := by rw [← Int.natCast_mul, w64 _ (by omega) (by omega)]
  have u3 : IntKind.i64.wrap (((k + 3 : Nat) : Int) + ((w * (t + 2) : Nat) : Int)) = (na : Int) := by rw [w64 _ (by omega) (by omega)]; omega
  have u4 : IntKind.i64.wrap (((k + 1 : Nat) : Int) + (t : Int)) = (np : Int) := by rw [w64 _ (by omega) (by omega)]; omega
  obtain ⟨h0, e0, H0⟩ := new_iso (n + 298) (w + 1) na np 1 (by omega) (by omega) (by omega) (by omega) (by omega) (by omega)
  have e0' : evF cm (n + 299) 21 [.i ((w + 1 : Nat) : Int), .i na, .i np, .i 1] [] 0 = some (.tup [.p 3 0 0, .i 0], h0) := e0
  have e0p : evP (evF cm (n + 299)) 21 [.i ((w + 1 : Nat) : Int), .i na, .i np, .i 1] = none := by
    unfold evP; rw [e0']; rfl
  have H1 := mem_shift H0 [(⟨0, [.i k, .i 0, .i 0, .i 0, .i 0, .i 0]⟩ : Row)]
  generalize hg : shR ([(⟨0, [.i k, .i 0, .i 0, .i 0, .i 0, .i 0]⟩ : Row)]).length h0 = g1 at H1
  have hg' : shR 1 h0 = g1 := hg
  have key : ∀ rc s I, iter (evCode (evF cm (n + 299)) (n + 299) 0 c5b0) (cleanN fgC) (n + 299) s = I → SC (AM.new (w + 1) na np 1) (fun τ => 1 + rowN τ) k t w (k + 3) rc 0 s → ∃ s', I = some (.exit 0, s') ∧ SC (AM.new (w + 1) na np 1) (fun τ => 1 + rowN τ) k t w (k + 3) rc w s' := by
    intro rc s I hI hs
    obtain ⟨s', h1, h2⟩ := iter_count (S := SC (AM.new (w + 1) na np 1) (fun τ => 1 + rowN τ) k t w (k + 3) rc) (e := 0) (fun i s hi hs => new_round (n + 289) _ _ k t w (k + 3) rc ht.2 hw.2 (by omega) i s hi hs) (fun s hs => new_last (n + 299) _ _ k t w (k + 3) rc s hs) w 0 s (n + 299) (by omega) (by omega) hs
    exact ⟨s', hI.symm.trans h1, h2⟩
  rw [evH_fun (m := c5) rfl _ _ _ _ rfl]
  generalize hx1 : ((w + 1 : Nat) : Int) = x1 at *
  generalize hx2 : ((t + 2 : Nat) : Int) = x2 at *
  generalize hx3 : ((k + 3 : Nat) : Int) = x3 at *
  generalize hx4 : ((k + 1 : Nat) : Int) = x4 at *
  generalize hx5 : ((w * (t + 2) : Nat) : Int) = x5 at *
  simp -implicitDefEqProofs only [c5, h1, h2, h3, h4, en, enp, e1, e2, u1, u2, u3, u4, e0', e0p, hg', push_cast, Nat.reduceAdd, Nat.reduceMul, Nat.reduceSub, Nat.reduceLT, Nat.reduceLeDiff, Nat.reduceEqDiff, Nat.reducePow, Int.reduceToNat, Int.reduceLT, Int.reduceLE, Int.reduceNeg, Int.reduceEq, Int.reducePow, reduceIte, reduceCtorEq, Int.reduceMul, Int.reduceAdd, Int.reduceSub, Int.reduceMod, Int.reduceDiv, Int.reduceTDiv, Int.reduceTMod]
  generalize hI : iter _ _ _ _ = I
  subst hx1 hx2 hx3 hx4 hx5
  have g0 : (0 : Nat) < ([(⟨0, [.i k, .i 0, .i 0, .i 0, .i 0, .i 0]⟩ : Row)] ++ g1).length := by simp
  have I0 : CI ([(⟨0, [.i k, .i 0, .i 0, .i 0, .i 0, .i 0]⟩ : Row)] ++ g1 ++ [(⟨0, crewC 4 0 k t ((k + 1 : Nat) : Int) .nils .nils .nils⟩ : Row)]) (AM.new (w + 1) na np 1) (fun τ => 1 + rowN τ) k t (k + 3) (g1.length + 1) 0 0 (fun _ => 0) 0 :=
    { mem := H1.app _
      rm := rfl
      own := fun j hj => ⟨by have := new_own H0 [(⟨0, [.i k, .i 0, .i 0, .i 0, .i 0, .i 0]⟩ : Row)] j hj; simp at this; omega, by have := H1.own hj; simp at this; omega⟩
      lc := by simp
      ring := by rw [rowOf_app_lt g0]; rfl
      rc0 := by omega
      crew := by
        have e1 : g1.length + 1 = ([(⟨0, [.i k, .i 0, .i 0, .i 0, .i 0, .i 0]⟩ : Row)] ++ g1).length := by simp
        rw [e1]; exact rowOf_app_eq
      deq := fun h => absurd h (Nat.lt_irrefl _)
      wk := fun h => absurd h (Nat.lt_irrefl _) }
  obtain ⟨s', hI2, T, h, rd, rk, wr, rfl, I, hT, t2, t12, t14, t16, t73, t74⟩ := key _ _ _ hI ⟨_, _, _, _, _, rfl, I0, rfl, rfl, rfl, rfl, rfl, rfl, rfl⟩
  subst hI2
  refine ⟨h, _, _, g1.length + 1, rd, rk, wr, ?_, I, rfl, hnp, rfl, rfl⟩
  rw [tl111 hT]
  simp -implicitDefEqProofs only [t16, push_cast, Nat.reduceAdd, Nat.reduceMul, Nat.reduceSub, Nat.reduceLT, Nat.reduceLeDiff, Nat.reduceEqDiff, Nat.reducePow, Int.reduceToNat, Int.reduceLT, Int.reduceLE, Int.reduceNeg, Int.reduceEq, Int.reducePow, reduceIte, reduceCtorEq, Int.reduceMul, Int.reduceAdd, Int.reduceSub, Int.reduceMod, Int.reduceDiv, Int.reduceTDiv, Int.reduceTMod]
end Go.Proofs.Ytnnpkpceodpfhaa
