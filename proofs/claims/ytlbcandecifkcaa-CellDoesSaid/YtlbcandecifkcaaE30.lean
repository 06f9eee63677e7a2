/- What was done last, what an atom is, who has a lock, what may be done: as the evaluator answers. -/
import Derived.Test.YtlbcandecifkcaaD30
set_option linter.unusedSimpArgs false
set_option linter.unusedVariables false
set_option maxRecDepth 100000
set_option maxHeartbeats 16000000
namespace Go.Proofs.Ytlbcandecifkcaa
open Go
def HV (th na np nl : Int) (LS CS : LV) : LV := .agg [.i th, .i na, .i np, .i nl, LS, CS]
theorem tl52 {T : List LV} (h : T.length = 52) : T = [getT T 0, getT T 1, getT T 2, getT T 3, getT T 4, getT T 5, getT T 6, getT T 7, getT T 8, getT T 9, getT T 10, getT T 11, getT T 12, getT T 13, getT T 14, getT T 15, getT T 16, getT T 17, getT T 18, getT T 19, getT T 20, getT T 21, getT T 22, getT T 23, getT T 24, getT T 25, getT T 26, getT T 27, getT T 28, getT T 29, getT T 30, getT T 31, getT T 32, getT T 33, getT T 34, getT T 35, getT T 36, getT T 37, getT T 38, getT T 39, getT T 40, getT T 41, getT T 42, getT T 43, getT T 44, getT T 45, getT T 46, getT T 47, getT T 48, getT T 49, getT T 50, getT T 51] := tlT h
def fg39 : List Nat := [16, 15, 6, 51, 50, 49, 48, 47, 46, 45, 44, 43, 42, 41, 40, 39, 38, 37, 36, 35, 34, 33, 32, 31, 30, 29, 28, 27, 26, 25, 24, 23, 22, 21, 20, 19, 18, 17, 14, 13]
def S39 (h0 : List Row) (r : Nat) (hd : List LV) (kind a : Int) (L : List Dn) (j : Nat) (s : St) : Prop := ∃ T hh, s = (T, hh) ∧ Ext h0 hh ∧ rowOf hh r 0 = some hd ∧ lastN L kind a (L.length - j) = lastW L kind a ∧ T.length = 52 ∧ getT T 1 = .i kind ∧ getT T 2 = .i a ∧ getT T 3 = .p r 0 0 ∧ getT T 7 = .i ((L.length : Int) - j - 1)
def R39 (h0 : List Row) (kind a : Int) (L : List Dn) (s : St) : Prop := ∃ T hh, s = (T, hh) ∧ Ext h0 hh ∧ T.length = 52 ∧ getT T 6 = .i (lastW L kind a)
theorem last_round (K lim : Nat) (h0 : List Row) (hlim : lim ≤ h0.length) (r k v : Nat) (b : Nat → Nat) (th na np nl : Int) (CS : LV) (kind a : Int) (L : List Dn) (hL : L.length ≤ 60)
    (hr : rowOf h0 k v = some (dCells b L L.length)) (j : Nat) (s : St) (hj : j < L.length) (hs : S39 h0 r [.i th, .i na, .i np, .i nl, .sl k v 0 L.length 9 L.length, CS] kind a L j s) :
    (∃ s', evCode (evF cm K) K lim c39b0 (cleanN fg39 s) = some (.nrm, s') ∧ S39 h0 r [.i th, .i na, .i np, .i nl, .sl k v 0 L.length 9 L.length, CS] kind a L (j + 1) s') ∨
    (∃ s', evCode (evF cm K) K lim c39b0 (cleanN fg39 s) = some (.ret, s') ∧ R39 h0 kind a L s') := by
  obtain ⟨T, hh, rfl, hx, h1, hN, hT, t1, t2, t3, t7⟩ := hs
  rw [tl52 hT]
  obtain ⟨i, hi⟩ : ∃ i : Nat, L.length - j = i + 1 := ⟨L.length - j - 1, by omega⟩
  have hi7 : (L.length : Int) - j - 1 = (i : Int) := by omega
  rw [hi7] at t7
  rw [hi] at hN
  unfold lastN at hN
  have hil : i < L.length := by omega
  have g1 : (0 : Int) ≤ (i : Int) := by omega
  have g2 : (i : Int) < (L.length : Int) := by omega
  have w1 : IntKind.i64.wrap ((i : Int) - 1) = (i : Int) - 1 := w64 _ (by omega) (by omega)
  have h2 := hx.row hr
  have hlt := rowOf_lt h1
  obtain ⟨-, -, -, -, -, hd⟩ := dCells_get (b := b) (L := L) hil
  have hdl : i * 9 + 9 ≤ (dCells b L L.length).length := by rw [dCells_len]; omega
  have hlh : ¬ hh.length < lim := by have := hx.le; omega
  have rb : ∀ cs, rowOf (hh ++ [⟨0, cs⟩]) hh.length 0 = some cs := fun cs => rowOf_app_eq
  have rc : ∀ x, rowOf (hh ++ [x]) r 0 = rowOf hh r 0 := fun x => rowOf_app_lt hlt
  have hE : ∀ x, Ext h0 (hh ++ [x]) := fun x => hx.trans (Ext.app _ _)
  have hS : ∀ d : List LV, ∀ T' : List LV, T'.length = 52 → getT T' 1 = .i kind → getT T' 2 = .i a → getT T' 3 = .p r 0 0 → getT T' 7 = .i ((i : Int) - 1) → hitB kind a (dn L i) = false →
      S39 h0 r [.i th, .i na, .i np, .i nl, .sl k v 0 L.length 9 L.length, CS] kind a L (j + 1) (T', hh ++ [⟨0, d⟩]) := by
    intro d T' e0 e1 e2 e3 e7 hh0
    rw [hh0, if_neg (by simp)] at hN
    exact ⟨T', _, rfl, hE _, by rw [rc]; exact h1, by rw [show L.length - (j + 1) = i by omega]; exact hN, e0, e1, e2, e3, by rw [e7]; congr 2; omega⟩
  have hR : ∀ d : List LV, ∀ T' : List LV, T'.length = 52 → getT T' 6 = .i i → hitB kind a (dn L i) = true → R39 h0 kind a L (T', hh ++ [⟨0, d⟩]) := by
    intro d T' e0 e6 hh0
    rw [hh0, if_pos rfl] at hN
    exact ⟨T', _, rfl, hE _, e0, by rw [e6, ← hN]⟩
  generalize dn L i = d at *
  by_cases ca : d.a = a
  · by_cases k3 : kind ≤ 3
    · have k6 : ¬ 6 ≤ kind := by omega
      by_cases d3 : d.k ≤ 3
      · cases hw : d.w with
        | true =>
          right
          simp -implicitDefEqProofs only [c39b0, fg39, t1, t2, t3, t7, g1, g2, w1, h1, h2, hd, hdl, hlh, rb, app1_0, ca, k3, k6, d3, hw, push_cast, Nat.reduceAdd, Nat.reduceMul, Nat.reduceSub, Nat.reduceLT, Nat.reduceLeDiff, Nat.reduceEqDiff, Nat.reducePow, Int.reduceToNat, Int.reduceLT, Int.reduceLE, Int.reduceNeg, Int.reduceEq, Int.reducePow, reduceIte, reduceCtorEq, Int.reduceMul, Int.reduceAdd, Int.reduceSub, Int.reduceMod, Int.reduceDiv, Int.reduceTDiv, Int.reduceTMod, iter_s]
          exact ⟨_, rfl, hR _ _ rfl rfl (by simp [hitB, ca, k3, d3, hw])⟩
        | false =>
          left
          simp -implicitDefEqProofs only [c39b0, fg39, t1, t2, t3, t7, g1, g2, w1, h1, h2, hd, hdl, hlh, rb, app1_0, ca, k3, k6, d3, hw, push_cast, Nat.reduceAdd, Nat.reduceMul, Nat.reduceSub, Nat.reduceLT, Nat.reduceLeDiff, Nat.reduceEqDiff, Nat.reducePow, Int.reduceToNat, Int.reduceLT, Int.reduceLE, Int.reduceNeg, Int.reduceEq, Int.reducePow, reduceIte, reduceCtorEq, Int.reduceMul, Int.reduceAdd, Int.reduceSub, Int.reduceMod, Int.reduceDiv, Int.reduceTDiv, Int.reduceTMod, iter_s]
          exact ⟨_, rfl, hS _ _ rfl rfl rfl rfl rfl (by simp [hitB, hw])⟩
      · left
        simp -implicitDefEqProofs only [c39b0, fg39, t1, t2, t3, t7, g1, g2, w1, h1, h2, hd, hdl, hlh, rb, app1_0, ca, k3, k6, d3, push_cast, Nat.reduceAdd, Nat.reduceMul, Nat.reduceSub, Nat.reduceLT, Nat.reduceLeDiff, Nat.reduceEqDiff, Nat.reducePow, Int.reduceToNat, Int.reduceLT, Int.reduceLE, Int.reduceNeg, Int.reduceEq, Int.reducePow, reduceIte, reduceCtorEq, Int.reduceMul, Int.reduceAdd, Int.reduceSub, Int.reduceMod, Int.reduceDiv, Int.reduceTDiv, Int.reduceTMod, iter_s]
        exact ⟨_, rfl, hS _ _ rfl rfl rfl rfl rfl (by simp [hitB, k6, d3])⟩
    · by_cases k6 : 6 ≤ kind
      · by_cases d6 : 6 ≤ d.k
        · cases hw : d.w with
          | true =>
            right
            simp -implicitDefEqProofs only [c39b0, fg39, t1, t2, t3, t7, g1, g2, w1, h1, h2, hd, hdl, hlh, rb, app1_0, ca, k3, k6, d6, hw, push_cast, Nat.reduceAdd, Nat.reduceMul, Nat.reduceSub, Nat.reduceLT, Nat.reduceLeDiff, Nat.reduceEqDiff, Nat.reducePow, Int.reduceToNat, Int.reduceLT, Int.reduceLE, Int.reduceNeg, Int.reduceEq, Int.reducePow, reduceIte, reduceCtorEq, Int.reduceMul, Int.reduceAdd, Int.reduceSub, Int.reduceMod, Int.reduceDiv, Int.reduceTDiv, Int.reduceTMod, iter_s]
            exact ⟨_, rfl, hR _ _ rfl rfl (by simp [hitB, ca, k6, d6, hw])⟩
          | false =>
            left
            simp -implicitDefEqProofs only [c39b0, fg39, t1, t2, t3, t7, g1, g2, w1, h1, h2, hd, hdl, hlh, rb, app1_0, ca, k3, k6, d6, hw, push_cast, Nat.reduceAdd, Nat.reduceMul, Nat.reduceSub, Nat.reduceLT, Nat.reduceLeDiff, Nat.reduceEqDiff, Nat.reducePow, Int.reduceToNat, Int.reduceLT, Int.reduceLE, Int.reduceNeg, Int.reduceEq, Int.reducePow, reduceIte, reduceCtorEq, Int.reduceMul, Int.reduceAdd, Int.reduceSub, Int.reduceMod, Int.reduceDiv, Int.reduceTDiv, Int.reduceTMod, iter_s]
            exact ⟨_, rfl, hS _ _ rfl rfl rfl rfl rfl (by simp [hitB, hw])⟩
        · left
          simp -implicitDefEqProofs only [c39b0, fg39, t1, t2, t3, t7, g1, g2, w1, h1, h2, hd, hdl, hlh, rb, app1_0, ca, k3, k6, d6, push_cast, Nat.reduceAdd, Nat.reduceMul, Nat.reduceSub, Nat.reduceLT, Nat.reduceLeDiff, Nat.reduceEqDiff, Nat.reducePow, Int.reduceToNat, Int.reduceLT, Int.reduceLE, Int.reduceNeg, Int.reduceEq, Int.reducePow, reduceIte, reduceCtorEq, Int.reduceMul, Int.reduceAdd, Int.reduceSub, Int.reduceMod, Int.reduceDiv, Int.reduceTDiv, Int.reduceTMod, iter_s]
          exact ⟨_, rfl, hS _ _ rfl rfl rfl rfl rfl (by simp [hitB, k3, d6])⟩
      · left
        simp -implicitDefEqProofs only [c39b0, fg39, t1, t2, t3, t7, g1, g2, w1, h1, h2, hd, hdl, hlh, rb, app1_0, ca, k3, k6, push_cast, Nat.reduceAdd, Nat.reduceMul, Nat.reduceSub, Nat.reduceLT, Nat.reduceLeDiff, Nat.reduceEqDiff, Nat.reducePow, Int.reduceToNat, Int.reduceLT, Int.reduceLE, Int.reduceNeg, Int.reduceEq, Int.reducePow, reduceIte, reduceCtorEq, Int.reduceMul, Int.reduceAdd, Int.reduceSub, Int.reduceMod, Int.reduceDiv, Int.reduceTDiv, Int.reduceTMod, iter_s]
        exact ⟨_, rfl, hS _ _ rfl rfl rfl rfl rfl (by simp [hitB, k3, k6])⟩
  · left
    simp -implicitDefEqProofs only [c39b0, fg39, t1, t2, t3, t7, g1, g2, w1, h1, h2, hd, hdl, hlh, rb, app1_0, ca, push_cast, Nat.reduceAdd, Nat.reduceMul, Nat.reduceSub, Nat.reduceLT, Nat.reduceLeDiff, Nat.reduceEqDiff, Nat.reducePow, Int.reduceToNat, Int.reduceLT, Int.reduceLE, Int.reduceNeg, Int.reduceEq, Int.reducePow, reduceIte, reduceCtorEq, Int.reduceMul, Int.reduceAdd, Int.reduceSub, Int.reduceMod, Int.reduceDiv, Int.reduceTDiv, Int.reduceTMod, iter_s]
    exact ⟨_, rfl, hS _ _ rfl rfl rfl rfl rfl (by simp [hitB, ca])⟩
theorem last_last (K lim : Nat) (h0 : List Row) (r : Nat) (hd : List LV) (kind a : Int) (L : List Dn) (s : St) (hs : S39 h0 r hd kind a L L.length s) :
    ∃ s', evCode (evF cm K) K lim c39b0 (cleanN fg39 s) = some (.exit 0, s') ∧ ∃ T hh, s' = (T, hh) ∧ Ext h0 hh ∧ T.length = 52 ∧ lastW L kind a = -1 := by
  obtain ⟨T, hh, rfl, hx, h1, hN, hT, t1, t2, t3, t7⟩ := hs
  rw [tl52 hT]
  have e7 : (L.length : Int) - (L.length : Int) - 1 = -1 := by omega
  rw [e7] at t7
  simp -implicitDefEqProofs only [c39b0, fg39, t1, t2, t3, t7, push_cast, Nat.reduceAdd, Nat.reduceMul, Nat.reduceSub, Nat.reduceLT, Nat.reduceLeDiff, Nat.reduceEqDiff, Nat.reducePow, Int.reduceToNat, Int.reduceLT, Int.reduceLE, Int.reduceNeg, Int.reduceEq, Int.reducePow, reduceIte, reduceCtorEq, Int.reduceMul, Int.reduceAdd, Int.reduceSub, Int.reduceMod, Int.reduceDiv, Int.reduceTDiv, Int.reduceTMod, iter_s]
  rw [Nat.sub_self] at hN
  exact ⟨_, rfl, _, hh, rfl, hx, rfl, hN.symm⟩
theorem last_nil (k lim : Nat) (h : List Row) (th na np nl : Int) (CS : LV) (kind a : Int) (hC : atomB CS = true ∧ CS.cells = [CS]) : evF cm (k + 10) 39 [HV th na np nl .nils CS, .i kind, .i a] h lim = some (.i (-1), h ++ [⟨0, [.i th, .i na, .i np, .i nl, .nils, CS]⟩]) := by
  have rb : ∀ cs, rowOf (h ++ [⟨0, cs⟩]) h.length 0 = some cs := fun cs => rowOf_app_eq
  rw [evH_fun (m := c39) rfl _ _ _ _ rfl]
  simp -implicitDefEqProofs only [c39, c39b0, HV, rb, hC.1, hC.2, push_cast, Nat.reduceAdd, Nat.reduceMul, Nat.reduceSub, Nat.reduceLT, Nat.reduceLeDiff, Nat.reduceEqDiff, Nat.reducePow, Int.reduceToNat, Int.reduceLT, Int.reduceLE, Int.reduceNeg, Int.reduceEq, Int.reducePow, reduceIte, reduceCtorEq, Int.reduceMul, Int.reduceAdd, Int.reduceSub, Int.reduceMod, Int.reduceDiv, Int.reduceTDiv, Int.reduceTMod, iter_s]
theorem last_ok (k lim : Nat) (h : List Row) (hlim : lim ≤ h.length) (th na np nl : Int) (L : List Dn) (LS CS : LV) (kind a : Int) (hC : atomB CS = true ∧ CS.cells = [CS]) {P : Nat → Prop} (hL : LAt h P L LS) (hn : L.length ≤ 60) :
    ∃ h', evF cm (k + 80) 39 [HV th na np nl LS CS, .i kind, .i a] h lim = some (.i (lastW L kind a), h') ∧ Ext h h' := by
  cases hL with
  | nil hl hs => subst hl; subst hs; exact ⟨_, last_nil (k + 70) lim h th na np nl CS kind a hC, Ext.app _ _⟩
  | sl k' v b hl hs hr hb hp hq =>
    subst hs
    have rb : ∀ cs, rowOf (h ++ [⟨0, cs⟩]) h.length 0 = some cs := fun cs => rowOf_app_eq
    have w1 : IntKind.i64.wrap ((L.length : Int) - 1) = (L.length : Int) - 1 := w64 _ (by omega) (by omega)
    have hx : Ext h (h ++ [⟨0, [.i th, .i na, .i np, .i nl, .sl k' v 0 L.length 9 L.length, CS]⟩]) := Ext.app _ _
    have key : ∀ s I, iter (evCode (evF cm (k + 79)) (k + 79) lim c39b0) (cleanN fg39) (k + 79) s = I → S39 (h ++ [⟨0, [.i th, .i na, .i np, .i nl, .sl k' v 0 L.length 9 L.length, CS]⟩]) h.length [.i th, .i na, .i np, .i nl, .sl k' v 0 L.length 9 L.length, CS] kind a L 0 s →
        (∃ T hh, I = some (.exit 0, (T, hh)) ∧ Ext h hh ∧ T.length = 52 ∧ lastW L kind a = -1) ∨ (∃ T hh, I = some (.ret, (T, hh)) ∧ Ext h hh ∧ T.length = 52 ∧ getT T 6 = .i (lastW L kind a)) := by
      intro s I hI hs
      rcases iter_until (fun i s hi hs => last_round (k + 79) lim _ (by simp; omega) h.length k' v b th na np nl CS kind a L hn (hx.row hr) i s hi hs) (fun s hs => last_last (k + 79) lim _ h.length _ kind a L s hs) L.length 0 s (k + 79) (by omega) (by omega) hs with ⟨s', h1, T, hh, rfl, h2, h3, h4⟩ | ⟨s', h1, T, hh, rfl, h2, h3, h4⟩
      · exact .inl ⟨T, hh, hI.symm.trans h1, hx.trans h2, h3, h4⟩
      · exact .inr ⟨T, hh, hI.symm.trans h1, hx.trans h2, h3, h4⟩
    rw [evH_fun (m := c39) rfl _ _ _ _ rfl]
    simp -implicitDefEqProofs only [c39, HV, rb, hC.1, hC.2, w1, push_cast, Nat.reduceAdd, Nat.reduceMul, Nat.reduceSub, Nat.reduceLT, Nat.reduceLeDiff, Nat.reduceEqDiff, Nat.reducePow, Int.reduceToNat, Int.reduceLT, Int.reduceLE, Int.reduceNeg, Int.reduceEq, Int.reducePow, reduceIte, reduceCtorEq, Int.reduceMul, Int.reduceAdd, Int.reduceSub, Int.reduceMod, Int.reduceDiv, Int.reduceTDiv, Int.reduceTMod]
    generalize hI : iter _ _ _ _ = I
    rcases key _ _ hI ⟨_, _, rfl, Ext.refl _, rb _, rfl, rfl, rfl, rfl, rfl, by show LV.i _ = LV.i _; congr 2⟩ with ⟨T, hh, hI2, h2, h3, h4⟩ | ⟨T, hh, hI2, h2, h3, h4⟩
    · subst hI2
      rw [tl52 h3, h4]
      simp -implicitDefEqProofs only [push_cast, Nat.reduceAdd, Nat.reduceMul, Nat.reduceSub, Nat.reduceLT, Nat.reduceLeDiff, Nat.reduceEqDiff, Nat.reducePow, Int.reduceToNat, Int.reduceLT, Int.reduceLE, Int.reduceNeg, Int.reduceEq, Int.reducePow, reduceIte, reduceCtorEq, Int.reduceMul, Int.reduceAdd, Int.reduceSub, Int.reduceMod, Int.reduceDiv, Int.reduceTDiv, Int.reduceTMod]
      exact ⟨_, rfl, h2⟩
    · subst hI2
      rw [tl52 h3]
      simp -implicitDefEqProofs only [h4, push_cast, Nat.reduceAdd, Nat.reduceMul, Nat.reduceSub, Nat.reduceLT, Nat.reduceLeDiff, Nat.reduceEqDiff, Nat.reducePow, Int.reduceToNat, Int.reduceLT, Int.reduceLE, Int.reduceNeg, Int.reduceEq, Int.reducePow, reduceIte, reduceCtorEq, Int.reduceMul, Int.reduceAdd, Int.reduceSub, Int.reduceMod, Int.reduceDiv, Int.reduceTDiv, Int.reduceTMod]
      exact ⟨_, rfl, h2⟩
/-! ### calls that hand back a number, or a truth -/
theorem call_flat {cal : Callee} {g : FuncId} {args : List LV} {h : List Row} {r : LV} (hr : flat r = true) (hc : closedL args = true → evP cal g args = some r) (hf : closedL args = false → closedL (frzL h args) = false)
    (hs : ∀ lim, lim ≤ h.length → ∃ h', cal g args h lim = some (r, h') ∧ Ext h h') (lim : Nat) : callE cal true lim h (.f g []) args = some (r, h) ∧ (lim ≤ h.length → ∃ h', callE cal false lim h (.f g []) args = some (r, h') ∧ Ext h h') := by
  by_cases h1 : closedL args = true
  · have e := hc h1
    have e1 : ∀ q, callE cal q lim h (.f g []) args = some (r, h) := fun q => by
      rw [call_P (by rw [List.append_nil]; exact h1), List.append_nil, e]; rfl
    exact ⟨e1 true, fun _ => ⟨h, e1 false, Ext.refl h⟩⟩
  · have h1 : closedL args = false := by simpa using h1
    have h2 := hf h1
    refine ⟨?_, fun hl => ?_⟩
    · obtain ⟨h', e, _⟩ := hs h.length (Nat.le_refl _)
      rw [call_Q (by rw [List.append_nil]; exact h1) (by rw [List.append_nil]; exact h2), List.append_nil, e]
      simp only [quietR, hr, if_true]
    · obtain ⟨h', e, x⟩ := hs lim hl
      refine ⟨h', ?_, x⟩
      rw [call_S (by rw [List.append_nil]; exact h1) (by rw [List.append_nil]; exact h2), List.append_nil, e]
/-- All that was done, as a value. -/
structure HAll (h : List Row) (P : Nat → Prop) (L : List Dn) (cl : List (Int × Int × Int)) (LS CS : LV) : Prop where
  l : LAt h P L LS
  c : C3At h P cl CS
  e : L = [] → cl = []
  n : L.length ≤ 60
theorem HAll.mono {h h' : List Row} {P P' : Nat → Prop} {L : List Dn} {cl : List (Int × Int × Int)} {LS CS : LV} (H : HAll h P L cl LS CS) (hh : ∀ k v cs, P k → rowOf h k v = some cs → rowOf h' k v = some cs ∧ P' k) : HAll h' P' L cl LS CS :=
  ⟨H.l.mono hh, H.c.mono hh, H.e, H.n⟩
theorem HAll.ext {h h' : List Row} {P : Nat → Prop} {L : List Dn} {cl : List (Int × Int × Int)} {LS CS : LV} (H : HAll h P L cl LS CS) (x : Ext h h') : HAll h' P L cl LS CS := H.mono fun _ _ _ hp e => ⟨x.row e, hp⟩
theorem HAll.open' {h : List Row} {P : Nat → Prop} {L : List Dn} {cl : List (Int × Int × Int)} {LS CS : LV} (H : HAll h P L cl LS CS) (th na np nl : Int) (rest : List LV) (hx : closed (HV th na np nl LS CS) = false ∨ True) : (L = [] ∧ LS = .nils ∧ closed CS = true) ∨ (L ≠ [] ∧ closedL (HV th na np nl LS CS :: rest) = false ∧ closedL (frzL h (HV th na np nl LS CS :: rest)) = false) := by
  cases H.l with
  | nil hl hs =>
    left
    refine ⟨hl, hs, ?_⟩
    rcases H.c with ⟨_, rfl | rfl⟩ | ⟨h1, _⟩
    · rfl
    · rfl
    · exact absurd (H.e hl) h1
  | sl k v b hl hs hr hb hp hq =>
    right
    subst hs
    have h1 : 0 < L.length := List.length_pos_iff.2 hl
    have hle : L.length * 9 ≤ (dCells b L L.length).length := by rw [dCells_len]; exact Nat.le_refl _
    have htk : List.take (L.length * 9) (dCells b L L.length) = dCells b L L.length := List.take_of_length_le (by rw [dCells_len]; exact Nat.le_refl _)
    refine ⟨hl, by simp [HV, closedL, closed], ?_⟩
    simp only [HV, frzL, frz, hr, Nat.zero_add, if_pos hle, List.drop_zero, htk, closedL, closed, dCells_open b L L.length h1]
    simp
theorem last_call (k lim : Nat) (h : List Row) (th na np nl : Int) (L : List Dn) (cl : List (Int × Int × Int)) (LS CS : LV) {P : Nat → Prop} (H : HAll h P L cl LS CS) (kind a : Int) :
    callE (evF cm (k + 80)) true lim h (.f 39 []) [HV th na np nl LS CS, .i kind, .i a] = some (.i (lastW L kind a), h) ∧
    (lim ≤ h.length → ∃ h', callE (evF cm (k + 80)) false lim h (.f 39 []) [HV th na np nl LS CS, .i kind, .i a] = some (.i (lastW L kind a), h') ∧ Ext h h') := by
  refine call_flat rfl (fun hc => ?_) (fun hc => ?_) (fun lim hl => last_ok k lim h hl th na np nl L LS CS kind a H.c.atm H.l H.n) lim
  · rcases H.open' th na np nl [.i kind, .i a] (.inr trivial) with ⟨h1, h2, h3⟩ | ⟨h1, h2, h3⟩
    · subst h1; subst h2
      unfold evP
      rw [last_nil (k + 70) 0 [] th na np nl CS kind a H.c.atm]
      rfl
    · rw [h2] at hc; cases hc
  · rcases H.open' th na np nl [.i kind, .i a] (.inr trivial) with ⟨h1, h2, h3⟩ | ⟨h1, h2, h3⟩
    · subst h2; simp [HV, closedL, closed, h3] at hc
    · exact h3
end Go.Proofs.Ytlbcandecifkcaa
