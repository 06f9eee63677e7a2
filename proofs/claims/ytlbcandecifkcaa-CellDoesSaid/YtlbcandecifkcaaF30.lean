/- What an atom is, who has a lock, what may be done: as the evaluator answers. -/
import Derived.Test.YtlbcandecifkcaaE30
set_option linter.unusedSimpArgs false
set_option linter.unusedVariables false
set_option maxRecDepth 100000
set_option maxHeartbeats 16000000
namespace Go.Proofs.Ytlbcandecifkcaa
open Go
/-- A call of a function of all that was done, which hands back a number or a truth. -/
theorem call_H {K : Nat} {g : FuncId} {h : List Row} {th na np nl : Int} {L : List Dn} {cl : List (Int × Int × Int)} {LS CS : LV} {P : Nat → Prop} {rest : List LV} {r : LV} (hr : flat r = true ∧ closed r = true ∧ ∀ h, frz h r = r) (hrest : closedL rest = true)
    (H : HAll h P L cl LS CS) (hs : ∀ (h : List Row) lim, HAll h P L cl LS CS → lim ≤ h.length → ∃ h', evF cm K g (HV th na np nl LS CS :: rest) h lim = some (r, h') ∧ Ext h h') (lim : Nat) :
    callE (evF cm K) true lim h (.f g []) (HV th na np nl LS CS :: rest) = some (r, h) ∧
    (lim ≤ h.length → ∃ h', callE (evF cm K) false lim h (.f g []) (HV th na np nl LS CS :: rest) = some (r, h') ∧ Ext h h') := by
  refine call_flat hr.1 (fun hc => ?_) (fun hc => ?_) (fun lim hl => hs h lim H hl) lim
  · rcases H.open' th na np nl rest (.inr trivial) with ⟨h1, h2, h3⟩ | ⟨h1, h2, h3⟩
    · have H0 : HAll [] P L cl LS CS := by
        refine ⟨.nil h1 h2, ?_, H.e, H.n⟩
        rcases H.c with hh | ⟨hh, _⟩
        · exact .inl hh
        · exact absurd (H.e h1) hh
      obtain ⟨h', e, _⟩ := hs [] 0 H0 (Nat.le_refl _)
      unfold evP
      rw [e]
      simp only [hr.2.2, hr.2.1, if_true]
    · rw [h2] at hc; cases hc
  · rcases H.open' th na np nl rest (.inr trivial) with ⟨h1, h2, h3⟩ | ⟨h1, h2, h3⟩
    · subst h2
      simp [HV, closedL, closed, h3, hrest] at hc
    · exact h3
theorem flat_i (n : Int) : flat (.i n) = true ∧ closed (.i n) = true ∧ ∀ h, frz h (.i n) = .i n := ⟨rfl, rfl, fun _ => rfl⟩
theorem flat_b (n : Bool) : flat (.b n) = true ∧ closed (.b n) = true ∧ ∀ h, frz h (.b n) = .b n := ⟨rfl, rfl, fun _ => rfl⟩
/-- What is at a place of what was done. -/
theorem HAll.at' {h : List Row} {P : Nat → Prop} {L : List Dn} {cl : List (Int × Int × Int)} {LS CS : LV} (H : HAll h P L cl LS CS) {i : Nat} (hi : i < L.length) : ∃ k v b, LS = .sl k v 0 L.length 9 L.length ∧ rowOf h k v = some (dCells b L L.length) ∧ rowOf h (b i) 0 = some (bools (dn L i).bf) ∧ (dn L i).bf.length = i := by
  cases H.l with
  | nil hl hs => subst hl; simp at hi
  | sl k v b hl hs hr hb hp hq => exact ⟨k, v, b, hs, hr, hb i hi⟩
theorem value_ok (k lim : Nat) (h : List Row) (hlim : lim ≤ h.length) (th na np nl : Int) (L : List Dn) (cl : List (Int × Int × Int)) (LS CS : LV) {P : Nat → Prop} (H : HAll h P L cl LS CS) (a : Int) :
    ∃ h', evF cm (k + 90) 31 [HV th na np nl LS CS, .i a] h lim = some (.i (value L a), h') ∧ Ext h h' := by
  have hLa := H.l.atm
  have hCa := H.c.atm
  have rb : ∀ cs, rowOf (h ++ [⟨0, cs⟩]) h.length 0 = some cs := fun cs => rowOf_app_eq
  have x1 : Ext h (h ++ [⟨0, [.i th, .i na, .i np, .i nl, LS, CS]⟩]) := Ext.app _ _
  have H1 := H.ext x1
  obtain ⟨h2, e2, x2⟩ := (last_call (k + 9) lim _ th na np nl L cl LS CS H1 0 a).2 (Nat.le_trans hlim x1.le)
  have r2 := x2.row (rb [.i th, .i na, .i np, .i nl, LS, CS])
  have H2 := H1.ext x2
  refine ⟨h2, ?_, x1.trans x2⟩
  simp only [HV] at e2
  rw [evH_fun (m := c31) rfl _ _ _ _ rfl]
  unfold value
  by_cases hw : lastW L 0 a < 0
  · rw [if_pos hw]
    simp -implicitDefEqProofs only [c31, HV, rb, hLa.1, hLa.2, hCa.1, hCa.2, e2, hw, push_cast, Nat.reduceAdd, Nat.reduceMul, Nat.reduceSub, Nat.reduceLT, Nat.reduceLeDiff, Nat.reduceEqDiff, Nat.reducePow, Int.reduceToNat, Int.reduceLT, Int.reduceLE, Int.reduceNeg, Int.reduceEq, Int.reducePow, reduceIte, reduceCtorEq, Int.reduceMul, Int.reduceAdd, Int.reduceSub, Int.reduceMod, Int.reduceDiv, Int.reduceTDiv, Int.reduceTMod, iter_s]
  · rw [if_neg hw]
    have hwl := lastW_lt L 0 a
    obtain ⟨i, hi⟩ : ∃ i : Nat, lastW L 0 a = i := ⟨(lastW L 0 a).toNat, by omega⟩
    have hil : i < L.length := by omega
    obtain ⟨k', v, b, hs, hr, _, _⟩ := H2.at' hil
    have g1 : (0 : Int) ≤ (i : Int) := by omega
    have g2 : (i : Int) < (L.length : Int) := by omega
    have g3 : ¬ (i : Int) < 0 := by omega
    obtain ⟨-, -, -, -, q7, -⟩ := dCells_get (b := b) (L := L) hil
    rw [hi] at e2 ⊢
    rw [Int.toNat_natCast]
    subst hs
    simp -implicitDefEqProofs only [c31, HV, rb, hCa.1, hCa.2, e2, r2, hr, q7, g1, g2, g3, push_cast, Nat.reduceAdd, Nat.reduceMul, Nat.reduceSub, Nat.reduceLT, Nat.reduceLeDiff, Nat.reduceEqDiff, Nat.reducePow, Int.reduceToNat, Int.reduceLT, Int.reduceLE, Int.reduceNeg, Int.reduceEq, Int.reducePow, reduceIte, reduceCtorEq, Int.reduceMul, Int.reduceAdd, Int.reduceSub, Int.reduceMod, Int.reduceDiv, Int.reduceTDiv, Int.reduceTMod, iter_s]
theorem value_call (k lim : Nat) (h : List Row) (th na np nl : Int) (L : List Dn) (cl : List (Int × Int × Int)) (LS CS : LV) {P : Nat → Prop} (H : HAll h P L cl LS CS) (a : Int) :
    callE (evF cm (k + 90)) true lim h (.f 31 []) [HV th na np nl LS CS, .i a] = some (.i (value L a), h) ∧
    (lim ≤ h.length → ∃ h', callE (evF cm (k + 90)) false lim h (.f 31 []) [HV th na np nl LS CS, .i a] = some (.i (value L a), h') ∧ Ext h h') :=
  call_H (flat_i _) rfl H (fun h lim H hl => value_ok k lim h hl th na np nl L cl LS CS H a) lim
theorem owner_ok (k lim : Nat) (h : List Row) (hlim : lim ≤ h.length) (th na np nl : Int) (L : List Dn) (cl : List (Int × Int × Int)) (LS CS : LV) {P : Nat → Prop} (H : HAll h P L cl LS CS) (a : Int) :
    ∃ h', evF cm (k + 90) 30 [HV th na np nl LS CS, .i a] h lim = some (.i (owner L a), h') ∧ Ext h h' := by
  have hLa := H.l.atm
  have hCa := H.c.atm
  have rb : ∀ cs, rowOf (h ++ [⟨0, cs⟩]) h.length 0 = some cs := fun cs => rowOf_app_eq
  have x1 : Ext h (h ++ [⟨0, [.i th, .i na, .i np, .i nl, LS, CS]⟩]) := Ext.app _ _
  have H1 := H.ext x1
  obtain ⟨h2, e2, x2⟩ := (last_call (k + 9) lim _ th na np nl L cl LS CS H1 6 a).2 (Nat.le_trans hlim x1.le)
  have r2 := x2.row (rb [.i th, .i na, .i np, .i nl, LS, CS])
  have H2 := H1.ext x2
  refine ⟨h2, ?_, x1.trans x2⟩
  simp only [HV] at e2
  rw [evH_fun (m := c30) rfl _ _ _ _ rfl]
  unfold owner
  by_cases hw : lastW L 6 a < 0
  · rw [if_pos hw]
    simp -implicitDefEqProofs only [c30, HV, rb, hLa.1, hLa.2, hCa.1, hCa.2, e2, hw, push_cast, Nat.reduceAdd, Nat.reduceMul, Nat.reduceSub, Nat.reduceLT, Nat.reduceLeDiff, Nat.reduceEqDiff, Nat.reducePow, Int.reduceToNat, Int.reduceLT, Int.reduceLE, Int.reduceNeg, Int.reduceEq, Int.reducePow, reduceIte, reduceCtorEq, Int.reduceMul, Int.reduceAdd, Int.reduceSub, Int.reduceMod, Int.reduceDiv, Int.reduceTDiv, Int.reduceTMod, iter_s]
  · rw [if_neg hw]
    have hwl := lastW_lt L 6 a
    obtain ⟨i, hi⟩ : ∃ i : Nat, lastW L 6 a = i := ⟨(lastW L 6 a).toNat, by omega⟩
    have hil : i < L.length := by omega
    obtain ⟨k', v, b, hs, hr, _, _⟩ := H2.at' hil
    have g1 : (0 : Int) ≤ (i : Int) := by omega
    have g2 : (i : Int) < (L.length : Int) := by omega
    have g3 : ¬ (i : Int) < 0 := by omega
    obtain ⟨q0, q1, -, -, q7, -⟩ := dCells_get (b := b) (L := L) hil
    rw [hi] at e2 ⊢
    rw [Int.toNat_natCast]
    subst hs
    by_cases h7 : (dn L i).k = 7
    · rw [if_pos h7]
      simp -implicitDefEqProofs only [c30, HV, rb, hCa.1, hCa.2, e2, r2, hr, q0, q1, g1, g2, g3, h7, push_cast, Nat.reduceAdd, Nat.reduceMul, Nat.reduceSub, Nat.reduceLT, Nat.reduceLeDiff, Nat.reduceEqDiff, Nat.reducePow, Int.reduceToNat, Int.reduceLT, Int.reduceLE, Int.reduceNeg, Int.reduceEq, Int.reducePow, reduceIte, reduceCtorEq, Int.reduceMul, Int.reduceAdd, Int.reduceSub, Int.reduceMod, Int.reduceDiv, Int.reduceTDiv, Int.reduceTMod, iter_s]
    · rw [if_neg h7]
      simp -implicitDefEqProofs only [c30, HV, rb, hCa.1, hCa.2, e2, r2, hr, q0, q1, g1, g2, g3, h7, push_cast, Nat.reduceAdd, Nat.reduceMul, Nat.reduceSub, Nat.reduceLT, Nat.reduceLeDiff, Nat.reduceEqDiff, Nat.reducePow, Int.reduceToNat, Int.reduceLT, Int.reduceLE, Int.reduceNeg, Int.reduceEq, Int.reducePow, reduceIte, reduceCtorEq, Int.reduceMul, Int.reduceAdd, Int.reduceSub, Int.reduceMod, Int.reduceDiv, Int.reduceTDiv, Int.reduceTMod, iter_s]
theorem owner_call (k lim : Nat) (h : List Row) (th na np nl : Int) (L : List Dn) (cl : List (Int × Int × Int)) (LS CS : LV) {P : Nat → Prop} (H : HAll h P L cl LS CS) (a : Int) :
    callE (evF cm (k + 90)) true lim h (.f 30 []) [HV th na np nl LS CS, .i a] = some (.i (owner L a), h) ∧
    (lim ≤ h.length → ∃ h', callE (evF cm (k + 90)) false lim h (.f 30 []) [HV th na np nl LS CS, .i a] = some (.i (owner L a), h') ∧ Ext h h') :=
  call_H (flat_i _) rfl H (fun h lim H hl => owner_ok k lim h hl th na np nl L cl LS CS H a) lim
def manyI (na np nl kind : Int) : Int := if kind ≤ 3 then na else if kind ≤ 5 then np else nl
theorem many_call (k lim : Nat) (h : List Row) (th na np nl : Int) (L : List Dn) (cl : List (Int × Int × Int)) (LS CS : LV) {P : Nat → Prop} (H : HAll h P L cl LS CS) (kind : Int) :
    callE (evF cm (k + 90)) true lim h (.f 29 []) [HV th na np nl LS CS, .i kind] = some (.i (manyI na np nl kind), h) ∧
    (lim ≤ h.length → ∃ h', callE (evF cm (k + 90)) false lim h (.f 29 []) [HV th na np nl LS CS, .i kind] = some (.i (manyI na np nl kind), h') ∧ Ext h h') := by
  refine call_H (flat_i _) rfl H (fun h lim H hl => ⟨h ++ [⟨0, [.i th, .i na, .i np, .i nl, LS, CS]⟩], ?_, Ext.app _ _⟩) lim
  have hLa := H.l.atm
  have hCa := H.c.atm
  have rb : ∀ cs, rowOf (h ++ [⟨0, cs⟩]) h.length 0 = some cs := fun cs => rowOf_app_eq
  rw [evH_fun (m := c29) rfl _ _ _ _ rfl]
  unfold manyI
  by_cases h3 : kind ≤ 3
  · rw [if_pos h3]
    simp -implicitDefEqProofs only [c29, HV, rb, hLa.1, hLa.2, hCa.1, hCa.2, h3, push_cast, Nat.reduceAdd, Nat.reduceMul, Nat.reduceSub, Nat.reduceLT, Nat.reduceLeDiff, Nat.reduceEqDiff, Nat.reducePow, Int.reduceToNat, Int.reduceLT, Int.reduceLE, Int.reduceNeg, Int.reduceEq, Int.reducePow, reduceIte, reduceCtorEq, Int.reduceMul, Int.reduceAdd, Int.reduceSub, Int.reduceMod, Int.reduceDiv, Int.reduceTDiv, Int.reduceTMod, iter_s]
  · rw [if_neg h3]
    by_cases h5 : kind ≤ 5
    · rw [if_pos h5]
      simp -implicitDefEqProofs only [c29, HV, rb, hLa.1, hLa.2, hCa.1, hCa.2, h3, h5, push_cast, Nat.reduceAdd, Nat.reduceMul, Nat.reduceSub, Nat.reduceLT, Nat.reduceLeDiff, Nat.reduceEqDiff, Nat.reducePow, Int.reduceToNat, Int.reduceLT, Int.reduceLE, Int.reduceNeg, Int.reduceEq, Int.reducePow, reduceIte, reduceCtorEq, Int.reduceMul, Int.reduceAdd, Int.reduceSub, Int.reduceMod, Int.reduceDiv, Int.reduceTDiv, Int.reduceTMod, iter_s]
    · rw [if_neg h5]
      simp -implicitDefEqProofs only [c29, HV, rb, hLa.1, hLa.2, hCa.1, hCa.2, h3, h5, push_cast, Nat.reduceAdd, Nat.reduceMul, Nat.reduceSub, Nat.reduceLT, Nat.reduceLeDiff, Nat.reduceEqDiff, Nat.reducePow, Int.reduceToNat, Int.reduceLT, Int.reduceLE, Int.reduceNeg, Int.reduceEq, Int.reducePow, reduceIte, reduceCtorEq, Int.reduceMul, Int.reduceAdd, Int.reduceSub, Int.reduceMod, Int.reduceDiv, Int.reduceTDiv, Int.reduceTMod, iter_s]
/-- What may be done. -/
def fitsB (th na np nl : Int) (L : List Dn) (k t a : Int) : Bool := !(decide (k < 0) || decide (7 < k) || decide (t < 0) || decide (th ≤ t) || decide (a < 0) || decide (manyI na np nl k ≤ a)) && (decide (k ≠ 7) || decide (owner L a = t))
theorem fits_ok (k lim : Nat) (h : List Row) (hlim : lim ≤ h.length) (th na np nl : Int) (L : List Dn) (cl : List (Int × Int × Int)) (LS CS : LV) {P : Nat → Prop} (H : HAll h P L cl LS CS) (kd t a o n : Int) :
    ∃ h', evF cm (k + 100) 14 [HV th na np nl LS CS, .agg [.i kd, .i t, .i a, .i o, .i n]] h lim = some (.b (fitsB th na np nl L kd t a), h') ∧ Ext h h' := by
  have hLa := H.l.atm
  have hCa := H.c.atm
  have x1 : Ext h (h ++ [⟨0, [.i th, .i na, .i np, .i nl, LS, CS]⟩, ⟨0, [.i kd, .i t, .i a, .i o, .i n]⟩]) := Ext.app _ _
  have H1 := H.ext x1
  have r1 : rowOf (h ++ [⟨0, [.i th, .i na, .i np, .i nl, LS, CS]⟩, ⟨0, [.i kd, .i t, .i a, .i o, .i n]⟩]) h.length 0 = some [.i th, .i na, .i np, .i nl, LS, CS] := rowOf_app_eq
  have r2 : rowOf (h ++ [⟨0, [.i th, .i na, .i np, .i nl, LS, CS]⟩, ⟨0, [.i kd, .i t, .i a, .i o, .i n]⟩]) (h.length + 1) 0 = some [.i kd, .i t, .i a, .i o, .i n] := by
    refine rowOf_at ?_
    rw [List.getElem?_append_right (by omega), show h.length + 1 - h.length = 1 by omega]; rfl
  have e1 := (many_call (k + 9) lim _ th na np nl L cl LS CS H1 kd).1
  have e2 := (owner_call (k + 9) lim _ th na np nl L cl LS CS H1 a).1
  refine ⟨h ++ [⟨0, [.i th, .i na, .i np, .i nl, LS, CS]⟩, ⟨0, [.i kd, .i t, .i a, .i o, .i n]⟩], ?_, x1⟩
  simp only [HV] at e1 e2
  have hl2 : ∀ x : Row, (h ++ [x]).length = h.length + 1 := fun x => by simp
  rw [evH_fun (m := c14) rfl _ _ _ _ rfl]
  generalize hm : manyI na np nl kd = m at *
  by_cases c1 : kd < 0
  · rw [show fitsB th na np nl L kd t a = false by simp [fitsB, c1]]
    simp -implicitDefEqProofs only [c14, HV, r1, r2, hl2, List.append_assoc, hLa.1, hLa.2, hCa.1, hCa.2, c1, push_cast, Nat.reduceAdd, Nat.reduceMul, Nat.reduceSub, Nat.reduceLT, Nat.reduceLeDiff, Nat.reduceEqDiff, Nat.reducePow, Int.reduceToNat, Int.reduceLT, Int.reduceLE, Int.reduceNeg, Int.reduceEq, Int.reducePow, reduceIte, reduceCtorEq, Int.reduceMul, Int.reduceAdd, Int.reduceSub, Int.reduceMod, Int.reduceDiv, Int.reduceTDiv, Int.reduceTMod, iter_s]
  by_cases c2 : 7 < kd
  · rw [show fitsB th na np nl L kd t a = false by simp [fitsB, c2]]
    simp -implicitDefEqProofs only [c14, HV, r1, r2, hl2, List.append_assoc, hLa.1, hLa.2, hCa.1, hCa.2, c1, c2, push_cast, Nat.reduceAdd, Nat.reduceMul, Nat.reduceSub, Nat.reduceLT, Nat.reduceLeDiff, Nat.reduceEqDiff, Nat.reducePow, Int.reduceToNat, Int.reduceLT, Int.reduceLE, Int.reduceNeg, Int.reduceEq, Int.reducePow, reduceIte, reduceCtorEq, Int.reduceMul, Int.reduceAdd, Int.reduceSub, Int.reduceMod, Int.reduceDiv, Int.reduceTDiv, Int.reduceTMod, iter_s]
  by_cases c3 : t < 0
  · rw [show fitsB th na np nl L kd t a = false by simp [fitsB, c3]]
    simp -implicitDefEqProofs only [c14, HV, r1, r2, hl2, List.append_assoc, hLa.1, hLa.2, hCa.1, hCa.2, c1, c2, c3, push_cast, Nat.reduceAdd, Nat.reduceMul, Nat.reduceSub, Nat.reduceLT, Nat.reduceLeDiff, Nat.reduceEqDiff, Nat.reducePow, Int.reduceToNat, Int.reduceLT, Int.reduceLE, Int.reduceNeg, Int.reduceEq, Int.reducePow, reduceIte, reduceCtorEq, Int.reduceMul, Int.reduceAdd, Int.reduceSub, Int.reduceMod, Int.reduceDiv, Int.reduceTDiv, Int.reduceTMod, iter_s]
  by_cases c4 : th ≤ t
  · rw [show fitsB th na np nl L kd t a = false by simp [fitsB, c4]]
    simp -implicitDefEqProofs only [c14, HV, r1, r2, hl2, List.append_assoc, hLa.1, hLa.2, hCa.1, hCa.2, c1, c2, c3, c4, push_cast, Nat.reduceAdd, Nat.reduceMul, Nat.reduceSub, Nat.reduceLT, Nat.reduceLeDiff, Nat.reduceEqDiff, Nat.reducePow, Int.reduceToNat, Int.reduceLT, Int.reduceLE, Int.reduceNeg, Int.reduceEq, Int.reducePow, reduceIte, reduceCtorEq, Int.reduceMul, Int.reduceAdd, Int.reduceSub, Int.reduceMod, Int.reduceDiv, Int.reduceTDiv, Int.reduceTMod, iter_s]
  by_cases c5 : a < 0
  · rw [show fitsB th na np nl L kd t a = false by simp [fitsB, c5]]
    simp -implicitDefEqProofs only [c14, HV, r1, r2, hl2, List.append_assoc, hLa.1, hLa.2, hCa.1, hCa.2, c1, c2, c3, c4, c5, push_cast, Nat.reduceAdd, Nat.reduceMul, Nat.reduceSub, Nat.reduceLT, Nat.reduceLeDiff, Nat.reduceEqDiff, Nat.reducePow, Int.reduceToNat, Int.reduceLT, Int.reduceLE, Int.reduceNeg, Int.reduceEq, Int.reducePow, reduceIte, reduceCtorEq, Int.reduceMul, Int.reduceAdd, Int.reduceSub, Int.reduceMod, Int.reduceDiv, Int.reduceTDiv, Int.reduceTMod, iter_s]
  by_cases c6 : m ≤ a
  · rw [show fitsB th na np nl L kd t a = false by simp [fitsB, hm, c6]]
    simp -implicitDefEqProofs only [c14, HV, r1, r2, hl2, List.append_assoc, hLa.1, hLa.2, hCa.1, hCa.2, c1, c2, c3, c4, c5, c6, e1, push_cast, Nat.reduceAdd, Nat.reduceMul, Nat.reduceSub, Nat.reduceLT, Nat.reduceLeDiff, Nat.reduceEqDiff, Nat.reducePow, Int.reduceToNat, Int.reduceLT, Int.reduceLE, Int.reduceNeg, Int.reduceEq, Int.reducePow, reduceIte, reduceCtorEq, Int.reduceMul, Int.reduceAdd, Int.reduceSub, Int.reduceMod, Int.reduceDiv, Int.reduceTDiv, Int.reduceTMod, iter_s]
  by_cases c7 : kd = 7
  · rw [show fitsB th na np nl L kd t a = decide (owner L a = t) by unfold fitsB; rw [hm]; simp [c3, c4, c5, c6, c7]]
    subst c7
    simp -implicitDefEqProofs only [c14, HV, r1, r2, hl2, List.append_assoc, hLa.1, hLa.2, hCa.1, hCa.2, c3, c4, c5, c6, e1, e2, push_cast, Nat.reduceAdd, Nat.reduceMul, Nat.reduceSub, Nat.reduceLT, Nat.reduceLeDiff, Nat.reduceEqDiff, Nat.reducePow, Int.reduceToNat, Int.reduceLT, Int.reduceLE, Int.reduceNeg, Int.reduceEq, Int.reducePow, reduceIte, reduceCtorEq, Int.reduceMul, Int.reduceAdd, Int.reduceSub, Int.reduceMod, Int.reduceDiv, Int.reduceTDiv, Int.reduceTMod, iter_s]
  · rw [show fitsB th na np nl L kd t a = true by unfold fitsB; rw [hm]; simp [c1, c2, c3, c4, c5, c6, c7]]
    simp -implicitDefEqProofs only [c14, HV, r1, r2, hl2, List.append_assoc, hLa.1, hLa.2, hCa.1, hCa.2, c1, c2, c3, c4, c5, c6, c7, e1, push_cast, Nat.reduceAdd, Nat.reduceMul, Nat.reduceSub, Nat.reduceLT, Nat.reduceLeDiff, Nat.reduceEqDiff, Nat.reducePow, Int.reduceToNat, Int.reduceLT, Int.reduceLE, Int.reduceNeg, Int.reduceEq, Int.reducePow, reduceIte, reduceCtorEq, Int.reduceMul, Int.reduceAdd, Int.reduceSub, Int.reduceMod, Int.reduceDiv, Int.reduceTDiv, Int.reduceTMod, iter_s]
theorem fits_call (k lim : Nat) (h : List Row) (th na np nl : Int) (L : List Dn) (cl : List (Int × Int × Int)) (LS CS : LV) {P : Nat → Prop} (H : HAll h P L cl LS CS) (kd t a o n : Int) :
    callE (evF cm (k + 100)) true lim h (.f 14 []) [HV th na np nl LS CS, .agg [.i kd, .i t, .i a, .i o, .i n]] = some (.b (fitsB th na np nl L kd t a), h) ∧
    (lim ≤ h.length → ∃ h', callE (evF cm (k + 100)) false lim h (.f 14 []) [HV th na np nl LS CS, .agg [.i kd, .i t, .i a, .i o, .i n]] = some (.b (fitsB th na np nl L kd t a), h') ∧ Ext h h') :=
  call_H (flat_b _) rfl H (fun h lim H hl => fits_ok k lim h hl th na np nl L cl LS CS H kd t a o n) lim
end Go.Proofs.Ytlbcandecifkcaa
