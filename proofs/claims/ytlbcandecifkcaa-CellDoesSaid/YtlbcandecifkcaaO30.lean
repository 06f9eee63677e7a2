/- An operation is done, by all that was done ahead of it: each sort, as the evaluator answers. -/
import Derived.Test.YtlbcandecifkcaaN30
set_option linter.unusedSimpArgs false
set_option linter.unusedVariables false
set_option maxRecDepth 100000
set_option maxHeartbeats 16000000
namespace Go.Proofs.Ytlbcandecifkcaa
open Go
theorem do_ok0 (k : Nat) (h : List Row) (hne : h.isEmpty = false) (N : Nat) (hN : N ≤ 80) (na np nl : Int) (L : List Dn) (cl : List (Int × Int × Int)) (LS CS : LV) {P : Nat → Prop} (H : HAll h P L cl LS CS) (hL : L.length < 60) (hclen : cl.length < 10000000) (t a o n : Int)  :
    ∃ h' LS', evF cm (k + 100) 16 [HV N na np nl LS CS, .agg [.i 0, .i t, .i a, .i o, .i n]] h 0 = some (HV N na np nl LS' CS, h') ∧ Ext h h' ∧ HAll h' (fun k => (P k ∧ k < h.length) ∨ h.length + 4 ≤ k) (L ++ [doD L 0 t a o n]) cl LS' CS := by
  have hLa := H.l.atm
  have hCa := H.c.atm
  have hd : doD L 0 t a o n = ⟨0, t, a, o, n, behind L t (lastW L 0 a) true, false, (value L a), false⟩ := by simp [doD]
  have D0 := D4.mk4 h [.i N, .i na, .i np, .i nl, LS, CS] [.i 0, .i t, .i a, .i o, .i n] [.i 0, .i 0, .i 0, .i 0, .nils, .nils] (ddC 0 t a o n false 0 false)
  obtain ⟨h1, ec, x1⟩ := (value_call (k + 9) 0 _ N na np nl L cl LS CS (H.ext D0.x) a).2 (Nat.zero_le _)
  have D1 := D0.ext x1
  have D := D1.put3 (ddC 0 t a o n false (value L a) false)
  have s0 : ∀ y, rowOf (h1.set (h.length + 3) y) h.length 0 = some [.i N, .i na, .i np, .i nl, LS, CS] := fun y => by rw [rowOf_set_ne (by omega)]; exact D1.r0
  have s1 : ∀ y, rowOf (h1.set (h.length + 3) y) (h.length + 1) 0 = some [.i 0, .i t, .i a, .i o, .i n] := fun y => by rw [rowOf_set_ne (by omega)]; exact D1.r1
  have s3 : ∀ cs, rowOf (h1.set (h.length + 3) ⟨0, cs⟩) (h.length + 3) 0 = some cs := fun cs => rowOf_set_eq (by have := D1.le; omega)
  have z0 := D1.r0
  have z1 := D1.r1
  have z3 := D1.r3
  simp only [HV, ddC] at ec z3
  obtain ⟨kb, h2, h3, B, h8, LS', h9, h10, h11, e1, e2, e2', e3, e4, e4', e5, e6, e7, e8, e9, e10, e11, e12, e13, x, H', hLa'⟩ := do_tail (k + 9) h hne N hN na np nl L cl LS CS H hL hclen 0 t a o n true (doD L 0 t a o n) (by rw [hd]) _ (by rw [hd]; exact D)
  refine ⟨h11, LS', ?_, x, H'⟩
  have r0 : ∀ b c d, rowOf (h ++ [⟨0, [.i N, .i na, .i np, .i nl, LS, CS]⟩, b, c, d]) h.length 0 = some [.i N, .i na, .i np, .i nl, LS, CS] := fun b c d => rowOf_app_eq
  have r1 : ∀ x, rowOf (h ++ [⟨0, [.i N, .i na, .i np, .i nl, LS, CS]⟩, ⟨0, [.i 0, .i t, .i a, .i o, .i n]⟩, ⟨0, [.i 0, .i 0, .i 0, .i 0, .nils, .nils]⟩, ⟨0, x⟩]) (h.length + 1) 0 = some [.i 0, .i t, .i a, .i o, .i n] := fun x => (D4.mk4 h _ _ _ _).r1
  have r1' : rowOf (h ++ [⟨0, [.i N, .i na, .i np, .i nl, LS, CS]⟩, ⟨0, [.i 0, .i t, .i a, .i o, .i n]⟩, ⟨0, [.i 0, .i 0, .i 0, .i 0, .nils, .nils]⟩]) (h.length + 1) 0 = some [.i 0, .i t, .i a, .i o, .i n] := by
    refine rowOf_at ?_
    rw [List.getElem?_append_right (by omega), show h.length + 1 - h.length = 1 by omega]; rfl
  have r3 : ∀ a b c x, rowOf (h ++ [⟨0, a⟩, ⟨0, b⟩, ⟨0, c⟩, ⟨0, x⟩]) (h.length + 3) 0 = some x := fun a b c x => (D4.mk4 h _ _ _ _).r3
  have hl1 : ∀ x : Row, (h ++ [x]).length = h.length + 1 := fun x => by simp
  have hl2 : ∀ x y : Row, (h ++ [x, y]).length = h.length + 2 := fun x y => by simp
  have hl3 : ∀ x y z : Row, (h ++ [x, y, z]).length = h.length + 3 := fun x y z => by simp
  simp only [hd, dnC, ddC] at e1 e2 e3 e5 e7
  rw [evX_fun (m := c16) rfl _ _ _ _ hne rfl]
  simp -implicitDefEqProofs only [c16, HV, hLa.1, hLa.2, hCa.1, hCa.2, hLa'.1, hLa'.2, r0, r1, r1', r3, hl1, hl2, hl3, app4_3, ec, s0, s1, s3, z0, z1, z3, e1, e2, e2', e3, e4, e4', e5, e6, e7, e8, e9, e10, e11, e12, e13, List.append_assoc, List.set_set, push_cast, Nat.reduceAdd, Nat.reduceMul, Nat.reduceSub, Nat.reduceLT, Nat.reduceLeDiff, Nat.reduceEqDiff, Nat.reducePow, Int.reduceToNat, Int.reduceLT, Int.reduceLE, Int.reduceNeg, Int.reduceEq, Int.reducePow, reduceIte, reduceCtorEq, Int.reduceMul, Int.reduceAdd, Int.reduceSub, Int.reduceMod, Int.reduceDiv, Int.reduceTDiv, Int.reduceTMod, iter_s]
theorem do_ok2t (k : Nat) (h : List Row) (hne : h.isEmpty = false) (N : Nat) (hN : N ≤ 80) (na np nl : Int) (L : List Dn) (cl : List (Int × Int × Int)) (LS CS : LV) {P : Nat → Prop} (H : HAll h P L cl LS CS) (hL : L.length < 60) (hclen : cl.length < 10000000) (t a o n : Int) (hv : value L a = o) :
    ∃ h' LS', evF cm (k + 100) 16 [HV N na np nl LS CS, .agg [.i 2, .i t, .i a, .i o, .i n]] h 0 = some (HV N na np nl LS' CS, h') ∧ Ext h h' ∧ HAll h' (fun k => (P k ∧ k < h.length) ∨ h.length + 4 ≤ k) (L ++ [doD L 2 t a o n]) cl LS' CS := by
  have hLa := H.l.atm
  have hCa := H.c.atm
  have hd : doD L 2 t a o n = ⟨2, t, a, o, n, behind L t (lastW L 2 a) true, true, n, true⟩ := by simp [doD, hv]
  have D0 := D4.mk4 h [.i N, .i na, .i np, .i nl, LS, CS] [.i 2, .i t, .i a, .i o, .i n] [.i 0, .i 0, .i 0, .i 0, .nils, .nils] (ddC 2 t a o n false 0 false)
  obtain ⟨h1, ec, x1⟩ := (value_call (k + 9) 0 _ N na np nl L cl LS CS (H.ext D0.x) a).2 (Nat.zero_le _)
  have D1 := D0.ext x1
  have D := D1.put3 (ddC 2 t a o n true n true)
  have s0 : ∀ y, rowOf (h1.set (h.length + 3) y) h.length 0 = some [.i N, .i na, .i np, .i nl, LS, CS] := fun y => by rw [rowOf_set_ne (by omega)]; exact D1.r0
  have s1 : ∀ y, rowOf (h1.set (h.length + 3) y) (h.length + 1) 0 = some [.i 2, .i t, .i a, .i o, .i n] := fun y => by rw [rowOf_set_ne (by omega)]; exact D1.r1
  have s3 : ∀ cs, rowOf (h1.set (h.length + 3) ⟨0, cs⟩) (h.length + 3) 0 = some cs := fun cs => rowOf_set_eq (by have := D1.le; omega)
  have z0 := D1.r0
  have z1 := D1.r1
  have z3 := D1.r3
  simp only [HV, ddC] at ec z3
  obtain ⟨kb, h2, h3, B, h8, LS', h9, h10, h11, e1, e2, e2', e3, e4, e4', e5, e6, e7, e8, e9, e10, e11, e12, e13, x, H', hLa'⟩ := do_tail (k + 9) h hne N hN na np nl L cl LS CS H hL hclen 2 t a o n true (doD L 2 t a o n) (by rw [hd]) _ (by rw [hd]; exact D)
  refine ⟨h11, LS', ?_, x, H'⟩
  have r0 : ∀ b c d, rowOf (h ++ [⟨0, [.i N, .i na, .i np, .i nl, LS, CS]⟩, b, c, d]) h.length 0 = some [.i N, .i na, .i np, .i nl, LS, CS] := fun b c d => rowOf_app_eq
  have r1 : ∀ x, rowOf (h ++ [⟨0, [.i N, .i na, .i np, .i nl, LS, CS]⟩, ⟨0, [.i 2, .i t, .i a, .i o, .i n]⟩, ⟨0, [.i 0, .i 0, .i 0, .i 0, .nils, .nils]⟩, ⟨0, x⟩]) (h.length + 1) 0 = some [.i 2, .i t, .i a, .i o, .i n] := fun x => (D4.mk4 h _ _ _ _).r1
  have r1' : rowOf (h ++ [⟨0, [.i N, .i na, .i np, .i nl, LS, CS]⟩, ⟨0, [.i 2, .i t, .i a, .i o, .i n]⟩, ⟨0, [.i 0, .i 0, .i 0, .i 0, .nils, .nils]⟩]) (h.length + 1) 0 = some [.i 2, .i t, .i a, .i o, .i n] := by
    refine rowOf_at ?_
    rw [List.getElem?_append_right (by omega), show h.length + 1 - h.length = 1 by omega]; rfl
  have r3 : ∀ a b c x, rowOf (h ++ [⟨0, a⟩, ⟨0, b⟩, ⟨0, c⟩, ⟨0, x⟩]) (h.length + 3) 0 = some x := fun a b c x => (D4.mk4 h _ _ _ _).r3
  have hl1 : ∀ x : Row, (h ++ [x]).length = h.length + 1 := fun x => by simp
  have hl2 : ∀ x y : Row, (h ++ [x, y]).length = h.length + 2 := fun x y => by simp
  have hl3 : ∀ x y z : Row, (h ++ [x, y, z]).length = h.length + 3 := fun x y z => by simp
  simp only [hd, dnC, ddC] at e1 e2 e3 e5 e7
  rw [evX_fun (m := c16) rfl _ _ _ _ hne rfl]
  simp -implicitDefEqProofs only [c16, HV, hLa.1, hLa.2, hCa.1, hCa.2, hLa'.1, hLa'.2, r0, r1, r1', r3, hl1, hl2, hl3, app4_3, ec, s0, s1, s3, z0, z1, z3, hv, eq_self, e1, e2, e2', e3, e4, e4', e5, e6, e7, e8, e9, e10, e11, e12, e13, List.append_assoc, List.set_set, push_cast, Nat.reduceAdd, Nat.reduceMul, Nat.reduceSub, Nat.reduceLT, Nat.reduceLeDiff, Nat.reduceEqDiff, Nat.reducePow, Int.reduceToNat, Int.reduceLT, Int.reduceLE, Int.reduceNeg, Int.reduceEq, Int.reducePow, reduceIte, reduceCtorEq, Int.reduceMul, Int.reduceAdd, Int.reduceSub, Int.reduceMod, Int.reduceDiv, Int.reduceTDiv, Int.reduceTMod, iter_s]
theorem do_ok2f (k : Nat) (h : List Row) (hne : h.isEmpty = false) (N : Nat) (hN : N ≤ 80) (na np nl : Int) (L : List Dn) (cl : List (Int × Int × Int)) (LS CS : LV) {P : Nat → Prop} (H : HAll h P L cl LS CS) (hL : L.length < 60) (hclen : cl.length < 10000000) (t a o n : Int) (hv : ¬ value L a = o) :
    ∃ h' LS', evF cm (k + 100) 16 [HV N na np nl LS CS, .agg [.i 2, .i t, .i a, .i o, .i n]] h 0 = some (HV N na np nl LS' CS, h') ∧ Ext h h' ∧ HAll h' (fun k => (P k ∧ k < h.length) ∨ h.length + 4 ≤ k) (L ++ [doD L 2 t a o n]) cl LS' CS := by
  have hLa := H.l.atm
  have hCa := H.c.atm
  have hd : doD L 2 t a o n = ⟨2, t, a, o, n, behind L t (lastW L 2 a) true, false, (value L a), false⟩ := by simp [doD, hv]
  have D0 := D4.mk4 h [.i N, .i na, .i np, .i nl, LS, CS] [.i 2, .i t, .i a, .i o, .i n] [.i 0, .i 0, .i 0, .i 0, .nils, .nils] (ddC 2 t a o n false 0 false)
  obtain ⟨h1, ec, x1⟩ := (value_call (k + 9) 0 _ N na np nl L cl LS CS (H.ext D0.x) a).2 (Nat.zero_le _)
  have D1 := D0.ext x1
  have D := D1.put3 (ddC 2 t a o n false (value L a) false)
  have s0 : ∀ y, rowOf (h1.set (h.length + 3) y) h.length 0 = some [.i N, .i na, .i np, .i nl, LS, CS] := fun y => by rw [rowOf_set_ne (by omega)]; exact D1.r0
  have s1 : ∀ y, rowOf (h1.set (h.length + 3) y) (h.length + 1) 0 = some [.i 2, .i t, .i a, .i o, .i n] := fun y => by rw [rowOf_set_ne (by omega)]; exact D1.r1
  have s3 : ∀ cs, rowOf (h1.set (h.length + 3) ⟨0, cs⟩) (h.length + 3) 0 = some cs := fun cs => rowOf_set_eq (by have := D1.le; omega)
  have z0 := D1.r0
  have z1 := D1.r1
  have z3 := D1.r3
  simp only [HV, ddC] at ec z3
  obtain ⟨kb, h2, h3, B, h8, LS', h9, h10, h11, e1, e2, e2', e3, e4, e4', e5, e6, e7, e8, e9, e10, e11, e12, e13, x, H', hLa'⟩ := do_tail (k + 9) h hne N hN na np nl L cl LS CS H hL hclen 2 t a o n true (doD L 2 t a o n) (by rw [hd]) _ (by rw [hd]; exact D)
  refine ⟨h11, LS', ?_, x, H'⟩
  have r0 : ∀ b c d, rowOf (h ++ [⟨0, [.i N, .i na, .i np, .i nl, LS, CS]⟩, b, c, d]) h.length 0 = some [.i N, .i na, .i np, .i nl, LS, CS] := fun b c d => rowOf_app_eq
  have r1 : ∀ x, rowOf (h ++ [⟨0, [.i N, .i na, .i np, .i nl, LS, CS]⟩, ⟨0, [.i 2, .i t, .i a, .i o, .i n]⟩, ⟨0, [.i 0, .i 0, .i 0, .i 0, .nils, .nils]⟩, ⟨0, x⟩]) (h.length + 1) 0 = some [.i 2, .i t, .i a, .i o, .i n] := fun x => (D4.mk4 h _ _ _ _).r1
  have r1' : rowOf (h ++ [⟨0, [.i N, .i na, .i np, .i nl, LS, CS]⟩, ⟨0, [.i 2, .i t, .i a, .i o, .i n]⟩, ⟨0, [.i 0, .i 0, .i 0, .i 0, .nils, .nils]⟩]) (h.length + 1) 0 = some [.i 2, .i t, .i a, .i o, .i n] := by
    refine rowOf_at ?_
    rw [List.getElem?_append_right (by omega), show h.length + 1 - h.length = 1 by omega]; rfl
  have r3 : ∀ a b c x, rowOf (h ++ [⟨0, a⟩, ⟨0, b⟩, ⟨0, c⟩, ⟨0, x⟩]) (h.length + 3) 0 = some x := fun a b c x => (D4.mk4 h _ _ _ _).r3
  have hl1 : ∀ x : Row, (h ++ [x]).length = h.length + 1 := fun x => by simp
  have hl2 : ∀ x y : Row, (h ++ [x, y]).length = h.length + 2 := fun x y => by simp
  have hl3 : ∀ x y z : Row, (h ++ [x, y, z]).length = h.length + 3 := fun x y z => by simp
  simp only [hd, dnC, ddC] at e1 e2 e3 e5 e7
  rw [evX_fun (m := c16) rfl _ _ _ _ hne rfl]
  simp -implicitDefEqProofs only [c16, HV, hLa.1, hLa.2, hCa.1, hCa.2, hLa'.1, hLa'.2, r0, r1, r1', r3, hl1, hl2, hl3, app4_3, ec, s0, s1, s3, z0, z1, z3, hv, e1, e2, e2', e3, e4, e4', e5, e6, e7, e8, e9, e10, e11, e12, e13, List.append_assoc, List.set_set, push_cast, Nat.reduceAdd, Nat.reduceMul, Nat.reduceSub, Nat.reduceLT, Nat.reduceLeDiff, Nat.reduceEqDiff, Nat.reducePow, Int.reduceToNat, Int.reduceLT, Int.reduceLE, Int.reduceNeg, Int.reduceEq, Int.reducePow, reduceIte, reduceCtorEq, Int.reduceMul, Int.reduceAdd, Int.reduceSub, Int.reduceMod, Int.reduceDiv, Int.reduceTDiv, Int.reduceTMod, iter_s]
theorem do_ok3 (k : Nat) (h : List Row) (hne : h.isEmpty = false) (N : Nat) (hN : N ≤ 80) (na np nl : Int) (L : List Dn) (cl : List (Int × Int × Int)) (LS CS : LV) {P : Nat → Prop} (H : HAll h P L cl LS CS) (hL : L.length < 60) (hclen : cl.length < 10000000) (t a o n : Int)  :
    ∃ h' LS', evF cm (k + 100) 16 [HV N na np nl LS CS, .agg [.i 3, .i t, .i a, .i o, .i n]] h 0 = some (HV N na np nl LS' CS, h') ∧ Ext h h' ∧ HAll h' (fun k => (P k ∧ k < h.length) ∨ h.length + 4 ≤ k) (L ++ [doD L 3 t a o n]) cl LS' CS := by
  have hLa := H.l.atm
  have hCa := H.c.atm
  have hd : doD L 3 t a o n = ⟨3, t, a, o, n, behind L t (lastW L 3 a) true, true, (doD.wrapI (value L a + n)), false⟩ := by simp [doD]
  have D0 := D4.mk4 h [.i N, .i na, .i np, .i nl, LS, CS] [.i 3, .i t, .i a, .i o, .i n] [.i 0, .i 0, .i 0, .i 0, .nils, .nils] (ddC 3 t a o n false 0 false)
  have D := D4.mk4 h [.i N, .i na, .i np, .i nl, LS, CS] [.i 3, .i t, .i a, .i o, .i n] [.i 0, .i 0, .i 0, .i 0, .nils, .nils] (ddC 3 t a o n true (doD.wrapI (value L a + n)) false)
  have ec := (value_call (k + 9) 0 _ N na np nl L cl LS CS (H.ext D0.x) a).1
  simp only [HV, ddC] at ec
  obtain ⟨kb, h2, h3, B, h8, LS', h9, h10, h11, e1, e2, e2', e3, e4, e4', e5, e6, e7, e8, e9, e10, e11, e12, e13, x, H', hLa'⟩ := do_tail (k + 9) h hne N hN na np nl L cl LS CS H hL hclen 3 t a o n true (doD L 3 t a o n) (by rw [hd]) _ (by rw [hd]; exact D)
  refine ⟨h11, LS', ?_, x, H'⟩
  have r0 : ∀ b c d, rowOf (h ++ [⟨0, [.i N, .i na, .i np, .i nl, LS, CS]⟩, b, c, d]) h.length 0 = some [.i N, .i na, .i np, .i nl, LS, CS] := fun b c d => rowOf_app_eq
  have r1 : ∀ x, rowOf (h ++ [⟨0, [.i N, .i na, .i np, .i nl, LS, CS]⟩, ⟨0, [.i 3, .i t, .i a, .i o, .i n]⟩, ⟨0, [.i 0, .i 0, .i 0, .i 0, .nils, .nils]⟩, ⟨0, x⟩]) (h.length + 1) 0 = some [.i 3, .i t, .i a, .i o, .i n] := fun x => (D4.mk4 h _ _ _ _).r1
  have r1' : rowOf (h ++ [⟨0, [.i N, .i na, .i np, .i nl, LS, CS]⟩, ⟨0, [.i 3, .i t, .i a, .i o, .i n]⟩, ⟨0, [.i 0, .i 0, .i 0, .i 0, .nils, .nils]⟩]) (h.length + 1) 0 = some [.i 3, .i t, .i a, .i o, .i n] := by
    refine rowOf_at ?_
    rw [List.getElem?_append_right (by omega), show h.length + 1 - h.length = 1 by omega]; rfl
  have r3 : ∀ a b c x, rowOf (h ++ [⟨0, a⟩, ⟨0, b⟩, ⟨0, c⟩, ⟨0, x⟩]) (h.length + 3) 0 = some x := fun a b c x => (D4.mk4 h _ _ _ _).r3
  have hl1 : ∀ x : Row, (h ++ [x]).length = h.length + 1 := fun x => by simp
  have hl2 : ∀ x y : Row, (h ++ [x, y]).length = h.length + 2 := fun x y => by simp
  have hl3 : ∀ x y z : Row, (h ++ [x, y, z]).length = h.length + 3 := fun x y z => by simp
  simp only [hd, dnC, ddC] at e1 e2 e3 e5 e7
  rw [evX_fun (m := c16) rfl _ _ _ _ hne rfl]
  simp -implicitDefEqProofs only [c16, HV, hLa.1, hLa.2, hCa.1, hCa.2, hLa'.1, hLa'.2, r0, r1, r1', r3, hl1, hl2, hl3, app4_3, ec, wrapI_eq, e1, e2, e2', e3, e4, e4', e5, e6, e7, e8, e9, e10, e11, e12, e13, List.append_assoc, List.set_set, push_cast, Nat.reduceAdd, Nat.reduceMul, Nat.reduceSub, Nat.reduceLT, Nat.reduceLeDiff, Nat.reduceEqDiff, Nat.reducePow, Int.reduceToNat, Int.reduceLT, Int.reduceLE, Int.reduceNeg, Int.reduceEq, Int.reducePow, reduceIte, reduceCtorEq, Int.reduceMul, Int.reduceAdd, Int.reduceSub, Int.reduceMod, Int.reduceDiv, Int.reduceTDiv, Int.reduceTMod, iter_s]
theorem do_ok4 (k : Nat) (h : List Row) (hne : h.isEmpty = false) (N : Nat) (hN : N ≤ 80) (na np nl : Int) (L : List Dn) (cl : List (Int × Int × Int)) (LS CS : LV) {P : Nat → Prop} (H : HAll h P L cl LS CS) (hL : L.length < 60) (hclen : cl.length < 10000000) (t a o n : Int)  :
    ∃ h' LS' CS', evF cm (k + 100) 16 [HV N na np nl LS CS, .agg [.i 4, .i t, .i a, .i o, .i n]] h 0 = some (HV N na np nl LS' CS', h') ∧ Ext h h' ∧ HAll h' (fun k => (P k ∧ k < h.length) ∨ h.length + 4 ≤ k) (L ++ [doD L 4 t a o n]) (cl ++ hcl N L (doD L 4 t a o n)) LS' CS' := by
  have hLa := H.l.atm
  have hCa := H.c.atm
  have hd : doD L 4 t a o n = ⟨4, t, a, o, n, behind L t (lastW L 4 a) false, false, 0, false⟩ := by simp [doD]
  have D := D4.mk4 h [.i N, .i na, .i np, .i nl, LS, CS] [.i 4, .i t, .i a, .i o, .i n] [.i 0, .i 0, .i 0, .i 0, .nils, .nils] (ddC 4 t a o n false 0 false)
  obtain ⟨kb, h2, h3, A, h4, S, h5, CS', h6, h7, B, h8, LS', h9, h10, h11, e1, e2, e2', e3, e4, e4', e5, a1, a2, a3, a4, a5, a6, a7, a8, e6, e7, e8, e9, e10, e11, e12, e13, x, H', hLa'⟩ := do_tailA (k + 9) h hne N hN na np nl L cl LS CS H hL hclen 4 t a o n false (doD L 4 t a o n) (by rw [hd]) _ (by rw [hd]; exact D)
  refine ⟨h11, LS', CS', ?_, x, H'⟩
  have r0 : ∀ b c d, rowOf (h ++ [⟨0, [.i N, .i na, .i np, .i nl, LS, CS]⟩, b, c, d]) h.length 0 = some [.i N, .i na, .i np, .i nl, LS, CS] := fun b c d => rowOf_app_eq
  have r1 : ∀ x, rowOf (h ++ [⟨0, [.i N, .i na, .i np, .i nl, LS, CS]⟩, ⟨0, [.i 4, .i t, .i a, .i o, .i n]⟩, ⟨0, [.i 0, .i 0, .i 0, .i 0, .nils, .nils]⟩, ⟨0, x⟩]) (h.length + 1) 0 = some [.i 4, .i t, .i a, .i o, .i n] := fun x => (D4.mk4 h _ _ _ _).r1
  have r1' : rowOf (h ++ [⟨0, [.i N, .i na, .i np, .i nl, LS, CS]⟩, ⟨0, [.i 4, .i t, .i a, .i o, .i n]⟩, ⟨0, [.i 0, .i 0, .i 0, .i 0, .nils, .nils]⟩]) (h.length + 1) 0 = some [.i 4, .i t, .i a, .i o, .i n] := by
    refine rowOf_at ?_
    rw [List.getElem?_append_right (by omega), show h.length + 1 - h.length = 1 by omega]; rfl
  have r3 : ∀ a b c x, rowOf (h ++ [⟨0, a⟩, ⟨0, b⟩, ⟨0, c⟩, ⟨0, x⟩]) (h.length + 3) 0 = some x := fun a b c x => (D4.mk4 h _ _ _ _).r3
  have hl1 : ∀ x : Row, (h ++ [x]).length = h.length + 1 := fun x => by simp
  have hl2 : ∀ x y : Row, (h ++ [x, y]).length = h.length + 2 := fun x y => by simp
  have hl3 : ∀ x y z : Row, (h ++ [x, y, z]).length = h.length + 3 := fun x y z => by simp
  simp only [hd, dnC, ddC] at e1 e2 e3 e5 e7 a2 a7
  rw [evX_fun (m := c16) rfl _ _ _ _ hne rfl]
  simp -implicitDefEqProofs only [c16, HV, hLa.1, hLa.2, hCa.1, hCa.2, hLa'.1, hLa'.2, r0, r1, r1', r3, hl1, hl2, hl3, app4_3, a1, a2, a3, a4, a5, a6, a7, a8.1, a8.2, e1, e2, e2', e3, e4, e4', e5, e6, e7, e8, e9, e10, e11, e12, e13, List.append_assoc, List.set_set, push_cast, Nat.reduceAdd, Nat.reduceMul, Nat.reduceSub, Nat.reduceLT, Nat.reduceLeDiff, Nat.reduceEqDiff, Nat.reducePow, Int.reduceToNat, Int.reduceLT, Int.reduceLE, Int.reduceNeg, Int.reduceEq, Int.reducePow, reduceIte, reduceCtorEq, Int.reduceMul, Int.reduceAdd, Int.reduceSub, Int.reduceMod, Int.reduceDiv, Int.reduceTDiv, Int.reduceTMod, iter_s]
theorem do_ok5 (k : Nat) (h : List Row) (hne : h.isEmpty = false) (N : Nat) (hN : N ≤ 80) (na np nl : Int) (L : List Dn) (cl : List (Int × Int × Int)) (LS CS : LV) {P : Nat → Prop} (H : HAll h P L cl LS CS) (hL : L.length < 60) (hclen : cl.length < 10000000) (t a o n : Int)  :
    ∃ h' LS' CS', evF cm (k + 100) 16 [HV N na np nl LS CS, .agg [.i 5, .i t, .i a, .i o, .i n]] h 0 = some (HV N na np nl LS' CS', h') ∧ Ext h h' ∧ HAll h' (fun k => (P k ∧ k < h.length) ∨ h.length + 4 ≤ k) (L ++ [doD L 5 t a o n]) (cl ++ hcl N L (doD L 5 t a o n)) LS' CS' := by
  have hLa := H.l.atm
  have hCa := H.c.atm
  have hd : doD L 5 t a o n = ⟨5, t, a, o, n, behind L t (lastW L 5 a) false, false, 0, false⟩ := by simp [doD]
  have D := D4.mk4 h [.i N, .i na, .i np, .i nl, LS, CS] [.i 5, .i t, .i a, .i o, .i n] [.i 0, .i 0, .i 0, .i 0, .nils, .nils] (ddC 5 t a o n false 0 false)
  obtain ⟨kb, h2, h3, A, h4, S, h5, CS', h6, h7, B, h8, LS', h9, h10, h11, e1, e2, e2', e3, e4, e4', e5, a1, a2, a3, a4, a5, a6, a7, a8, e6, e7, e8, e9, e10, e11, e12, e13, x, H', hLa'⟩ := do_tailA (k + 9) h hne N hN na np nl L cl LS CS H hL hclen 5 t a o n false (doD L 5 t a o n) (by rw [hd]) _ (by rw [hd]; exact D)
  refine ⟨h11, LS', CS', ?_, x, H'⟩
  have r0 : ∀ b c d, rowOf (h ++ [⟨0, [.i N, .i na, .i np, .i nl, LS, CS]⟩, b, c, d]) h.length 0 = some [.i N, .i na, .i np, .i nl, LS, CS] := fun b c d => rowOf_app_eq
  have r1 : ∀ x, rowOf (h ++ [⟨0, [.i N, .i na, .i np, .i nl, LS, CS]⟩, ⟨0, [.i 5, .i t, .i a, .i o, .i n]⟩, ⟨0, [.i 0, .i 0, .i 0, .i 0, .nils, .nils]⟩, ⟨0, x⟩]) (h.length + 1) 0 = some [.i 5, .i t, .i a, .i o, .i n] := fun x => (D4.mk4 h _ _ _ _).r1
  have r1' : rowOf (h ++ [⟨0, [.i N, .i na, .i np, .i nl, LS, CS]⟩, ⟨0, [.i 5, .i t, .i a, .i o, .i n]⟩, ⟨0, [.i 0, .i 0, .i 0, .i 0, .nils, .nils]⟩]) (h.length + 1) 0 = some [.i 5, .i t, .i a, .i o, .i n] := by
    refine rowOf_at ?_
    rw [List.getElem?_append_right (by omega), show h.length + 1 - h.length = 1 by omega]; rfl
  have r3 : ∀ a b c x, rowOf (h ++ [⟨0, a⟩, ⟨0, b⟩, ⟨0, c⟩, ⟨0, x⟩]) (h.length + 3) 0 = some x := fun a b c x => (D4.mk4 h _ _ _ _).r3
  have hl1 : ∀ x : Row, (h ++ [x]).length = h.length + 1 := fun x => by simp
  have hl2 : ∀ x y : Row, (h ++ [x, y]).length = h.length + 2 := fun x y => by simp
  have hl3 : ∀ x y z : Row, (h ++ [x, y, z]).length = h.length + 3 := fun x y z => by simp
  simp only [hd, dnC, ddC] at e1 e2 e3 e5 e7 a2 a7
  rw [evX_fun (m := c16) rfl _ _ _ _ hne rfl]
  simp -implicitDefEqProofs only [c16, HV, hLa.1, hLa.2, hCa.1, hCa.2, hLa'.1, hLa'.2, r0, r1, r1', r3, hl1, hl2, hl3, app4_3, a1, a2, a3, a4, a5, a6, a7, a8.1, a8.2, e1, e2, e2', e3, e4, e4', e5, e6, e7, e8, e9, e10, e11, e12, e13, List.append_assoc, List.set_set, push_cast, Nat.reduceAdd, Nat.reduceMul, Nat.reduceSub, Nat.reduceLT, Nat.reduceLeDiff, Nat.reduceEqDiff, Nat.reducePow, Int.reduceToNat, Int.reduceLT, Int.reduceLE, Int.reduceNeg, Int.reduceEq, Int.reducePow, reduceIte, reduceCtorEq, Int.reduceMul, Int.reduceAdd, Int.reduceSub, Int.reduceMod, Int.reduceDiv, Int.reduceTDiv, Int.reduceTMod, iter_s]
theorem do_ok6t (k : Nat) (h : List Row) (hne : h.isEmpty = false) (N : Nat) (hN : N ≤ 80) (na np nl : Int) (L : List Dn) (cl : List (Int × Int × Int)) (LS CS : LV) {P : Nat → Prop} (H : HAll h P L cl LS CS) (hL : L.length < 60) (hclen : cl.length < 10000000) (t a o n : Int) (hv : owner L a < 0) :
    ∃ h' LS', evF cm (k + 100) 16 [HV N na np nl LS CS, .agg [.i 6, .i t, .i a, .i o, .i n]] h 0 = some (HV N na np nl LS' CS, h') ∧ Ext h h' ∧ HAll h' (fun k => (P k ∧ k < h.length) ∨ h.length + 4 ≤ k) (L ++ [doD L 6 t a o n]) cl LS' CS := by
  have hLa := H.l.atm
  have hCa := H.c.atm
  have hd : doD L 6 t a o n = ⟨6, t, a, o, n, behind L t (lastW L 6 a) true, true, 0, true⟩ := by simp [doD, hv]
  have D0 := D4.mk4 h [.i N, .i na, .i np, .i nl, LS, CS] [.i 6, .i t, .i a, .i o, .i n] [.i 0, .i 0, .i 0, .i 0, .nils, .nils] (ddC 6 t a o n false 0 false)
  obtain ⟨h1, ec, x1⟩ := (owner_call (k + 9) 0 _ N na np nl L cl LS CS (H.ext D0.x) a).2 (Nat.zero_le _)
  have D1 := D0.ext x1
  have D := D1.put3 (ddC 6 t a o n true 0 true)
  have s0 : ∀ y, rowOf (h1.set (h.length + 3) y) h.length 0 = some [.i N, .i na, .i np, .i nl, LS, CS] := fun y => by rw [rowOf_set_ne (by omega)]; exact D1.r0
  have s1 : ∀ y, rowOf (h1.set (h.length + 3) y) (h.length + 1) 0 = some [.i 6, .i t, .i a, .i o, .i n] := fun y => by rw [rowOf_set_ne (by omega)]; exact D1.r1
  have s3 : ∀ cs, rowOf (h1.set (h.length + 3) ⟨0, cs⟩) (h.length + 3) 0 = some cs := fun cs => rowOf_set_eq (by have := D1.le; omega)
  have z0 := D1.r0
  have z1 := D1.r1
  have z3 := D1.r3
  simp only [HV, ddC] at ec z3
  obtain ⟨kb, h2, h3, B, h8, LS', h9, h10, h11, e1, e2, e2', e3, e4, e4', e5, e6, e7, e8, e9, e10, e11, e12, e13, x, H', hLa'⟩ := do_tail (k + 9) h hne N hN na np nl L cl LS CS H hL hclen 6 t a o n true (doD L 6 t a o n) (by rw [hd]) _ (by rw [hd]; exact D)
  refine ⟨h11, LS', ?_, x, H'⟩
  have r0 : ∀ b c d, rowOf (h ++ [⟨0, [.i N, .i na, .i np, .i nl, LS, CS]⟩, b, c, d]) h.length 0 = some [.i N, .i na, .i np, .i nl, LS, CS] := fun b c d => rowOf_app_eq
  have r1 : ∀ x, rowOf (h ++ [⟨0, [.i N, .i na, .i np, .i nl, LS, CS]⟩, ⟨0, [.i 6, .i t, .i a, .i o, .i n]⟩, ⟨0, [.i 0, .i 0, .i 0, .i 0, .nils, .nils]⟩, ⟨0, x⟩]) (h.length + 1) 0 = some [.i 6, .i t, .i a, .i o, .i n] := fun x => (D4.mk4 h _ _ _ _).r1
  have r1' : rowOf (h ++ [⟨0, [.i N, .i na, .i np, .i nl, LS, CS]⟩, ⟨0, [.i 6, .i t, .i a, .i o, .i n]⟩, ⟨0, [.i 0, .i 0, .i 0, .i 0, .nils, .nils]⟩]) (h.length + 1) 0 = some [.i 6, .i t, .i a, .i o, .i n] := by
    refine rowOf_at ?_
    rw [List.getElem?_append_right (by omega), show h.length + 1 - h.length = 1 by omega]; rfl
  have r3 : ∀ a b c x, rowOf (h ++ [⟨0, a⟩, ⟨0, b⟩, ⟨0, c⟩, ⟨0, x⟩]) (h.length + 3) 0 = some x := fun a b c x => (D4.mk4 h _ _ _ _).r3
  have hl1 : ∀ x : Row, (h ++ [x]).length = h.length + 1 := fun x => by simp
  have hl2 : ∀ x y : Row, (h ++ [x, y]).length = h.length + 2 := fun x y => by simp
  have hl3 : ∀ x y z : Row, (h ++ [x, y, z]).length = h.length + 3 := fun x y z => by simp
  simp only [hd, dnC, ddC] at e1 e2 e3 e5 e7
  rw [evX_fun (m := c16) rfl _ _ _ _ hne rfl]
  simp -implicitDefEqProofs only [c16, HV, hLa.1, hLa.2, hCa.1, hCa.2, hLa'.1, hLa'.2, r0, r1, r1', r3, hl1, hl2, hl3, app4_3, ec, s0, s1, s3, z0, z1, z3, hv, e1, e2, e2', e3, e4, e4', e5, e6, e7, e8, e9, e10, e11, e12, e13, List.append_assoc, List.set_set, push_cast, Nat.reduceAdd, Nat.reduceMul, Nat.reduceSub, Nat.reduceLT, Nat.reduceLeDiff, Nat.reduceEqDiff, Nat.reducePow, Int.reduceToNat, Int.reduceLT, Int.reduceLE, Int.reduceNeg, Int.reduceEq, Int.reducePow, reduceIte, reduceCtorEq, Int.reduceMul, Int.reduceAdd, Int.reduceSub, Int.reduceMod, Int.reduceDiv, Int.reduceTDiv, Int.reduceTMod, iter_s]
theorem do_ok6f (k : Nat) (h : List Row) (hne : h.isEmpty = false) (N : Nat) (hN : N ≤ 80) (na np nl : Int) (L : List Dn) (cl : List (Int × Int × Int)) (LS CS : LV) {P : Nat → Prop} (H : HAll h P L cl LS CS) (hL : L.length < 60) (hclen : cl.length < 10000000) (t a o n : Int) (hv : ¬ owner L a < 0) :
    ∃ h' LS', evF cm (k + 100) 16 [HV N na np nl LS CS, .agg [.i 6, .i t, .i a, .i o, .i n]] h 0 = some (HV N na np nl LS' CS, h') ∧ Ext h h' ∧ HAll h' (fun k => (P k ∧ k < h.length) ∨ h.length + 4 ≤ k) (L ++ [doD L 6 t a o n]) cl LS' CS := by
  have hLa := H.l.atm
  have hCa := H.c.atm
  have hd : doD L 6 t a o n = ⟨6, t, a, o, n, behind L t (lastW L 6 a) false, false, 0, false⟩ := by simp [doD, hv]
  have D0 := D4.mk4 h [.i N, .i na, .i np, .i nl, LS, CS] [.i 6, .i t, .i a, .i o, .i n] [.i 0, .i 0, .i 0, .i 0, .nils, .nils] (ddC 6 t a o n false 0 false)
  obtain ⟨h1, ec, x1⟩ := (owner_call (k + 9) 0 _ N na np nl L cl LS CS (H.ext D0.x) a).2 (Nat.zero_le _)
  have D1 := D0.ext x1
  have D := D1.put3 (ddC 6 t a o n false 0 false)
  have s0 : ∀ y, rowOf (h1.set (h.length + 3) y) h.length 0 = some [.i N, .i na, .i np, .i nl, LS, CS] := fun y => by rw [rowOf_set_ne (by omega)]; exact D1.r0
  have s1 : ∀ y, rowOf (h1.set (h.length + 3) y) (h.length + 1) 0 = some [.i 6, .i t, .i a, .i o, .i n] := fun y => by rw [rowOf_set_ne (by omega)]; exact D1.r1
  have s3 : ∀ cs, rowOf (h1.set (h.length + 3) ⟨0, cs⟩) (h.length + 3) 0 = some cs := fun cs => rowOf_set_eq (by have := D1.le; omega)
  have z0 := D1.r0
  have z1 := D1.r1
  have z3 := D1.r3
  simp only [HV, ddC] at ec z3
  obtain ⟨kb, h2, h3, B, h8, LS', h9, h10, h11, e1, e2, e2', e3, e4, e4', e5, e6, e7, e8, e9, e10, e11, e12, e13, x, H', hLa'⟩ := do_tail (k + 9) h hne N hN na np nl L cl LS CS H hL hclen 6 t a o n false (doD L 6 t a o n) (by rw [hd]) _ (by rw [hd]; exact D)
  refine ⟨h11, LS', ?_, x, H'⟩
  have r0 : ∀ b c d, rowOf (h ++ [⟨0, [.i N, .i na, .i np, .i nl, LS, CS]⟩, b, c, d]) h.length 0 = some [.i N, .i na, .i np, .i nl, LS, CS] := fun b c d => rowOf_app_eq
  have r1 : ∀ x, rowOf (h ++ [⟨0, [.i N, .i na, .i np, .i nl, LS, CS]⟩, ⟨0, [.i 6, .i t, .i a, .i o, .i n]⟩, ⟨0, [.i 0, .i 0, .i 0, .i 0, .nils, .nils]⟩, ⟨0, x⟩]) (h.length + 1) 0 = some [.i 6, .i t, .i a, .i o, .i n] := fun x => (D4.mk4 h _ _ _ _).r1
  have r1' : rowOf (h ++ [⟨0, [.i N, .i na, .i np, .i nl, LS, CS]⟩, ⟨0, [.i 6, .i t, .i a, .i o, .i n]⟩, ⟨0, [.i 0, .i 0, .i 0, .i 0, .nils, .nils]⟩]) (h.length + 1) 0 = some [.i 6, .i t, .i a, .i o, .i n] := by
    refine rowOf_at ?_
    rw [List.getElem?_append_right (by omega), show h.length + 1 - h.length = 1 by omega]; rfl
  have r3 : ∀ a b c x, rowOf (h ++ [⟨0, a⟩, ⟨0, b⟩, ⟨0, c⟩, ⟨0, x⟩]) (h.length + 3) 0 = some x := fun a b c x => (D4.mk4 h _ _ _ _).r3
  have hl1 : ∀ x : Row, (h ++ [x]).length = h.length + 1 := fun x => by simp
  have hl2 : ∀ x y : Row, (h ++ [x, y]).length = h.length + 2 := fun x y => by simp
  have hl3 : ∀ x y z : Row, (h ++ [x, y, z]).length = h.length + 3 := fun x y z => by simp
  simp only [hd, dnC, ddC] at e1 e2 e3 e5 e7
  rw [evX_fun (m := c16) rfl _ _ _ _ hne rfl]
  simp -implicitDefEqProofs only [c16, HV, hLa.1, hLa.2, hCa.1, hCa.2, hLa'.1, hLa'.2, r0, r1, r1', r3, hl1, hl2, hl3, app4_3, ec, s0, s1, s3, z0, z1, z3, hv, e1, e2, e2', e3, e4, e4', e5, e6, e7, e8, e9, e10, e11, e12, e13, List.append_assoc, List.set_set, push_cast, Nat.reduceAdd, Nat.reduceMul, Nat.reduceSub, Nat.reduceLT, Nat.reduceLeDiff, Nat.reduceEqDiff, Nat.reducePow, Int.reduceToNat, Int.reduceLT, Int.reduceLE, Int.reduceNeg, Int.reduceEq, Int.reducePow, reduceIte, reduceCtorEq, Int.reduceMul, Int.reduceAdd, Int.reduceSub, Int.reduceMod, Int.reduceDiv, Int.reduceTDiv, Int.reduceTMod, iter_s]
theorem do_ok7 (k : Nat) (h : List Row) (hne : h.isEmpty = false) (N : Nat) (hN : N ≤ 80) (na np nl : Int) (L : List Dn) (cl : List (Int × Int × Int)) (LS CS : LV) {P : Nat → Prop} (H : HAll h P L cl LS CS) (hL : L.length < 60) (hclen : cl.length < 10000000) (t a o n : Int)  :
    ∃ h' LS', evF cm (k + 100) 16 [HV N na np nl LS CS, .agg [.i 7, .i t, .i a, .i o, .i n]] h 0 = some (HV N na np nl LS' CS, h') ∧ Ext h h' ∧ HAll h' (fun k => (P k ∧ k < h.length) ∨ h.length + 4 ≤ k) (L ++ [doD L 7 t a o n]) cl LS' CS := by
  have hLa := H.l.atm
  have hCa := H.c.atm
  have hd : doD L 7 t a o n = ⟨7, t, a, o, n, behind L t (lastW L 7 a) false, true, 0, false⟩ := by simp [doD]
  have D := D4.mk4 h [.i N, .i na, .i np, .i nl, LS, CS] [.i 7, .i t, .i a, .i o, .i n] [.i 0, .i 0, .i 0, .i 0, .nils, .nils] (ddC 7 t a o n true 0 false)
  obtain ⟨kb, h2, h3, B, h8, LS', h9, h10, h11, e1, e2, e2', e3, e4, e4', e5, e6, e7, e8, e9, e10, e11, e12, e13, x, H', hLa'⟩ := do_tail (k + 9) h hne N hN na np nl L cl LS CS H hL hclen 7 t a o n false (doD L 7 t a o n) (by rw [hd]) _ (by rw [hd]; exact D)
  refine ⟨h11, LS', ?_, x, H'⟩
  have r0 : ∀ b c d, rowOf (h ++ [⟨0, [.i N, .i na, .i np, .i nl, LS, CS]⟩, b, c, d]) h.length 0 = some [.i N, .i na, .i np, .i nl, LS, CS] := fun b c d => rowOf_app_eq
  have r1 : ∀ x, rowOf (h ++ [⟨0, [.i N, .i na, .i np, .i nl, LS, CS]⟩, ⟨0, [.i 7, .i t, .i a, .i o, .i n]⟩, ⟨0, [.i 0, .i 0, .i 0, .i 0, .nils, .nils]⟩, ⟨0, x⟩]) (h.length + 1) 0 = some [.i 7, .i t, .i a, .i o, .i n] := fun x => (D4.mk4 h _ _ _ _).r1
  have r1' : rowOf (h ++ [⟨0, [.i N, .i na, .i np, .i nl, LS, CS]⟩, ⟨0, [.i 7, .i t, .i a, .i o, .i n]⟩, ⟨0, [.i 0, .i 0, .i 0, .i 0, .nils, .nils]⟩]) (h.length + 1) 0 = some [.i 7, .i t, .i a, .i o, .i n] := by
    refine rowOf_at ?_
    rw [List.getElem?_append_right (by omega), show h.length + 1 - h.length = 1 by omega]; rfl
  have r3 : ∀ a b c x, rowOf (h ++ [⟨0, a⟩, ⟨0, b⟩, ⟨0, c⟩, ⟨0, x⟩]) (h.length + 3) 0 = some x := fun a b c x => (D4.mk4 h _ _ _ _).r3
  have hl1 : ∀ x : Row, (h ++ [x]).length = h.length + 1 := fun x => by simp
  have hl2 : ∀ x y : Row, (h ++ [x, y]).length = h.length + 2 := fun x y => by simp
  have hl3 : ∀ x y z : Row, (h ++ [x, y, z]).length = h.length + 3 := fun x y z => by simp
  simp only [hd, dnC, ddC] at e1 e2 e3 e5 e7
  rw [evX_fun (m := c16) rfl _ _ _ _ hne rfl]
  simp -implicitDefEqProofs only [c16, HV, hLa.1, hLa.2, hCa.1, hCa.2, hLa'.1, hLa'.2, r0, r1, r1', r3, hl1, hl2, hl3, app4_3, e1, e2, e2', e3, e4, e4', e5, e6, e7, e8, e9, e10, e11, e12, e13, List.append_assoc, List.set_set, push_cast, Nat.reduceAdd, Nat.reduceMul, Nat.reduceSub, Nat.reduceLT, Nat.reduceLeDiff, Nat.reduceEqDiff, Nat.reducePow, Int.reduceToNat, Int.reduceLT, Int.reduceLE, Int.reduceNeg, Int.reduceEq, Int.reducePow, reduceIte, reduceCtorEq, Int.reduceMul, Int.reduceAdd, Int.reduceSub, Int.reduceMod, Int.reduceDiv, Int.reduceTDiv, Int.reduceTMod, iter_s]
theorem do_ok (k : Nat) (h : List Row) (hne : h.isEmpty = false) (N : Nat) (hN : N ≤ 80) (na np nl : Int) (L : List Dn) (cl : List (Int × Int × Int)) (LS CS : LV) {P : Nat → Prop} (H : HAll h P L cl LS CS) (hL : L.length < 60) (hclen : cl.length < 10000000) (t a o n : Int) (kd : Int) (hk : 0 ≤ kd ∧ kd ≤ 7) :
    ∃ h' LS' CS', evF cm (k + 100) 16 [HV N na np nl LS CS, .agg [.i kd, .i t, .i a, .i o, .i n]] h 0 = some (HV N na np nl LS' CS', h') ∧ Ext h h' ∧ HAll h' (fun k => (P k ∧ k < h.length) ∨ h.length + 4 ≤ k) (L ++ [doD L kd t a o n]) (cl ++ (if kd = 4 ∨ kd = 5 then hcl N L (doD L kd t a o n) else [])) LS' CS' := by
  have fin : ∀ kd : Int, ¬ (kd = 4 ∨ kd = 5) → (∃ h' LS', evF cm (k + 100) 16 [HV N na np nl LS CS, .agg [.i kd, .i t, .i a, .i o, .i n]] h 0 = some (HV N na np nl LS' CS, h') ∧ Ext h h' ∧ HAll h' (fun k => (P k ∧ k < h.length) ∨ h.length + 4 ≤ k) (L ++ [doD L kd t a o n]) cl LS' CS) →
      ∃ h' LS' CS', evF cm (k + 100) 16 [HV N na np nl LS CS, .agg [.i kd, .i t, .i a, .i o, .i n]] h 0 = some (HV N na np nl LS' CS', h') ∧ Ext h h' ∧ HAll h' (fun k => (P k ∧ k < h.length) ∨ h.length + 4 ≤ k) (L ++ [doD L kd t a o n]) (cl ++ (if kd = 4 ∨ kd = 5 then hcl N L (doD L kd t a o n) else [])) LS' CS' := by
    intro kd hn h1
    obtain ⟨h', LS', e, x, H'⟩ := h1
    exact ⟨h', LS', CS, e, x, by rw [if_neg hn, List.append_nil]; exact H'⟩
  rcases (show kd = 0 ∨ kd = 1 ∨ kd = 2 ∨ kd = 3 ∨ kd = 4 ∨ kd = 5 ∨ kd = 6 ∨ kd = 7 by omega) with rfl | rfl | rfl | rfl | rfl | rfl | rfl | rfl
  · exact fin 0 (by omega) (do_ok0 k h hne N hN na np nl L cl LS CS H hL hclen t a o n)
  · exact fin 1 (by omega) (do_ok1 k h hne N hN na np nl L cl LS CS H hL hclen t a o n)
  · by_cases hv : value L a = o
    · exact fin 2 (by omega) (do_ok2t k h hne N hN na np nl L cl LS CS H hL hclen t a o n hv)
    · exact fin 2 (by omega) (do_ok2f k h hne N hN na np nl L cl LS CS H hL hclen t a o n hv)
  · exact fin 3 (by omega) (do_ok3 k h hne N hN na np nl L cl LS CS H hL hclen t a o n)
  · exact do_ok4 k h hne N hN na np nl L cl LS CS H hL hclen t a o n
  · exact do_ok5 k h hne N hN na np nl L cl LS CS H hL hclen t a o n
  · by_cases hv : owner L a < 0
    · exact fin 6 (by omega) (do_ok6t k h hne N hN na np nl L cl LS CS H hL hclen t a o n hv)
    · exact fin 6 (by omega) (do_ok6f k h hne N hN na np nl L cl LS CS H hL hclen t a o n hv)
  · exact fin 7 (by omega) (do_ok7 k h hne N hN na np nl L cl LS CS H hL hclen t a o n)
end Go.Proofs.Ytlbcandecifkcaa
