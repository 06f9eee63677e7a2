/- An operation is done, by all that was done ahead of it: as the evaluator answers, whole. -/
import Derived.Test.YtlbcandecifkcaaM30
set_option linter.unusedSimpArgs false
set_option linter.unusedVariables false
set_option maxRecDepth 100000
set_option maxHeartbeats 16000000
namespace Go.Proofs.Ytlbcandecifkcaa
open Go
theorem wrapI_eq (x : Int) : IntKind.i64.wrap x = doD.wrapI x := by rw [IntKind.wrap_i64]; rfl
/-- What the two halves make of a heap, for an operation that is no access. -/
theorem do_tail (k : Nat) (h : List Row) (hne : h.isEmpty = false) (N : Nat) (hN : N ≤ 80) (na np nl : Int) (L : List Dn) (cl : List (Int × Int × Int)) (LS CS : LV) {P : Nat → Prop} (H : HAll h P L cl LS CS) (hL : L.length < 60) (hclen : cl.length < 10000000)
    (kd t a o n : Int) (sees : Bool) (d : Dn) (hd : d = ⟨kd, t, a, o, n, behind L t (lastW L kd a) sees, d.w, d.v, d.is⟩) (hh : List Row) (D : D4 h hh [.i N, .i na, .i np, .i nl, LS, CS] [.i kd, .i t, .i a, .i o, .i n] [.i 0, .i 0, .i 0, .i 0, .nils, .nils] (ddC kd t a o n d.w d.v d.is)) :
    ∃ kb h2 h3 B h8 LS' h9 h10 h11, evF cm (k + 90) 32 [.agg [.i N, .i na, .i np, .i nl, LS, CS], .agg [.i kd, .i t, .i a, .i o, .i n], .b sees] hh 0 = some (.sl kb 0 0 L.length 1 L.length, h2) ∧ rowOf h2 (h.length + 3) 0 = some (ddC kd t a o n d.w d.v d.is) ∧ rowOf h2 (h.length + 1) 0 = some [.i kd, .i t, .i a, .i o, .i n] ∧
      h2.set (h.length + 3) ⟨0, dnC d kb L.length⟩ = h3 ∧ rowOf h3 h.length 0 = some [.i N, .i na, .i np, .i nl, LS, CS] ∧ rowOf h3 (h.length + 1) 0 = some [.i kd, .i t, .i a, .i o, .i n] ∧ rowOf h3 (h.length + 3) 0 = some (dnC d kb L.length) ∧
      (newsE h3 9 LS).bind (appK 0 h3 9 88 (.im [] 0 true)) = some (B, h8) ∧ appE 0 h8 9 88 (dnC d kb L.length) 1 B = some (LS', h9) ∧ rowOf h9 h.length 0 = some [.i N, .i na, .i np, .i nl, LS, CS] ∧
      h9.set h.length ⟨0, [.i N, .i na, .i np, .i nl, LS', CS]⟩ = h10 ∧ rowOf h10 h.length 0 = some [.i N, .i na, .i np, .i nl, LS', CS] ∧ rowOf h10 (h.length + 2) 0 = some [.i 0, .i 0, .i 0, .i 0, .nils, .nils] ∧
      h10.set (h.length + 2) ⟨0, [.i N, .i na, .i np, .i nl, LS', CS]⟩ = h11 ∧ rowOf h11 (h.length + 2) 0 = some [.i N, .i na, .i np, .i nl, LS', CS] ∧ Ext h h11 ∧ HAll h11 (fun k => (P k ∧ k < h.length) ∨ h.length + 4 ≤ k) (L ++ [d]) cl LS' CS ∧ (atomB LS' = true ∧ LS'.cells = [LS']) := by
  obtain ⟨kb, h2, h3, e2, r2, e3, D3, D2, hkb, hk4, hdl⟩ := do_half k h hne N hN na np nl L cl LS CS H hL hclen kd t a o n sees d hd hh D
  obtain ⟨B, h8, LS', h9, h10, h11, q1, q2, q3, q4, q5, q6, q7, q8, q9, q10, q11, q12⟩ := do_rest h N na np nl L cl LS CS d kb _ h3 D3 H.l (H.c.mono fun k v cs hp e => ⟨D3.x.row e, .inl ⟨hp, rowOf_lt e⟩⟩) hL hkb hk4 hdl
  exact ⟨kb, h2, h3, B, h8, LS', h9, h10, h11, e2, r2, D2.r1, e3, D3.r0, D3.r1, D3.r3, q1, q2, q3, q4, q5, q6, q7, q8, q9, ⟨q10, q11, fun e => absurd e (by simp), by simp; omega⟩, q12⟩
/-- The same, for an access. -/
theorem do_tailA (k : Nat) (h : List Row) (hne : h.isEmpty = false) (N : Nat) (hN : N ≤ 80) (na np nl : Int) (L : List Dn) (cl : List (Int × Int × Int)) (LS CS : LV) {P : Nat → Prop} (H : HAll h P L cl LS CS) (hL : L.length < 60) (hclen : cl.length < 10000000)
    (kd t a o n : Int) (sees : Bool) (d : Dn) (hd : d = ⟨kd, t, a, o, n, behind L t (lastW L kd a) sees, d.w, d.v, d.is⟩) (hh : List Row) (D : D4 h hh [.i N, .i na, .i np, .i nl, LS, CS] [.i kd, .i t, .i a, .i o, .i n] [.i 0, .i 0, .i 0, .i 0, .nils, .nils] (ddC kd t a o n d.w d.v d.is)) :
    ∃ kb h2 h3 A h4 S h5 CS' h6 h7 B h8 LS' h9 h10 h11, evF cm (k + 90) 32 [.agg [.i N, .i na, .i np, .i nl, LS, CS], .agg [.i kd, .i t, .i a, .i o, .i n], .b sees] hh 0 = some (.sl kb 0 0 L.length 1 L.length, h2) ∧ rowOf h2 (h.length + 3) 0 = some (ddC kd t a o n d.w d.v d.is) ∧ rowOf h2 (h.length + 1) 0 = some [.i kd, .i t, .i a, .i o, .i n] ∧
      h2.set (h.length + 3) ⟨0, dnC d kb L.length⟩ = h3 ∧ rowOf h3 h.length 0 = some [.i N, .i na, .i np, .i nl, LS, CS] ∧ rowOf h3 (h.length + 1) 0 = some [.i kd, .i t, .i a, .i o, .i n] ∧ rowOf h3 (h.length + 3) 0 = some (dnC d kb L.length) ∧
      (newsE h3 3 CS).bind (appK 0 h3 3 24 (.im [] 0 true)) = some (A, h4) ∧ evF cm (k + 90) 33 [.agg [.i N, .i na, .i np, .i nl, LS, CS], .agg (dnC d kb L.length)] h4 0 = some (S, h5) ∧
      (newsE h5 3 S).bind (appK 0 h5 3 24 A) = some (CS', h6) ∧ rowOf h6 h.length 0 = some [.i N, .i na, .i np, .i nl, LS, CS] ∧ h6.set h.length ⟨0, [.i N, .i na, .i np, .i nl, LS, CS']⟩ = h7 ∧ rowOf h7 h.length 0 = some [.i N, .i na, .i np, .i nl, LS, CS'] ∧ rowOf h7 (h.length + 3) 0 = some (dnC d kb L.length) ∧ (atomB CS' = true ∧ CS'.cells = [CS']) ∧
      (newsE h7 9 LS).bind (appK 0 h7 9 88 (.im [] 0 true)) = some (B, h8) ∧ appE 0 h8 9 88 (dnC d kb L.length) 1 B = some (LS', h9) ∧ rowOf h9 h.length 0 = some [.i N, .i na, .i np, .i nl, LS, CS'] ∧
      h9.set h.length ⟨0, [.i N, .i na, .i np, .i nl, LS', CS']⟩ = h10 ∧ rowOf h10 h.length 0 = some [.i N, .i na, .i np, .i nl, LS', CS'] ∧ rowOf h10 (h.length + 2) 0 = some [.i 0, .i 0, .i 0, .i 0, .nils, .nils] ∧
      h10.set (h.length + 2) ⟨0, [.i N, .i na, .i np, .i nl, LS', CS']⟩ = h11 ∧ rowOf h11 (h.length + 2) 0 = some [.i N, .i na, .i np, .i nl, LS', CS'] ∧ Ext h h11 ∧ HAll h11 (fun k => (P k ∧ k < h.length) ∨ h.length + 4 ≤ k) (L ++ [d]) (cl ++ hcl N L d) LS' CS' ∧ (atomB LS' = true ∧ LS'.cells = [LS']) := by
  obtain ⟨kb, h2, h3, e2, r2, e3, D3, D2, hkb, hk4, hdl⟩ := do_half k h hne N hN na np nl L cl LS CS H hL hclen kd t a o n sees d hd hh D
  obtain ⟨A, h4, S, h5, CS', h6, h7, p1, p2, p3, p4, p5, D7, p7, p9, p10⟩ := do_clash k h N hN na np nl L cl LS CS H hclen d kb _ h3 D3 hkb hk4 hdl
  obtain ⟨B, h8, LS', h9, h10, h11, q1, q2, q3, q4, q5, q6, q7, q8, q9, q10, q11, q12⟩ := do_rest h N na np nl L _ LS CS' d kb _ h7 D7 H.l p7 hL p9 hk4 hdl
  exact ⟨kb, h2, h3, A, h4, S, h5, CS', h6, h7, B, h8, LS', h9, h10, h11, e2, r2, D2.r1, e3, D3.r0, D3.r1, D3.r3, p1, p2, p3, p4, p5, D7.r0, D7.r3, p10, q1, q2, q3, q4, q5, q6, q7, q8, q9, ⟨q10, q11, fun e => absurd e (by simp), by simp; omega⟩, q12⟩
theorem do_ok1 (k : Nat) (h : List Row) (hne : h.isEmpty = false) (N : Nat) (hN : N ≤ 80) (na np nl : Int) (L : List Dn) (cl : List (Int × Int × Int)) (LS CS : LV) {P : Nat → Prop} (H : HAll h P L cl LS CS) (hL : L.length < 60) (hclen : cl.length < 10000000) (t a o n : Int) :
    ∃ h' LS', evF cm (k + 100) 16 [HV N na np nl LS CS, .agg [.i 1, .i t, .i a, .i o, .i n]] h 0 = some (HV N na np nl LS' CS, h') ∧ Ext h h' ∧ HAll h' (fun k => (P k ∧ k < h.length) ∨ h.length + 4 ≤ k) (L ++ [doD L 1 t a o n]) cl LS' CS := by
  have hLa := H.l.atm
  have hCa := H.c.atm
  have D := D4.mk4 h [.i N, .i na, .i np, .i nl, LS, CS] [.i 1, .i t, .i a, .i o, .i n] [.i 0, .i 0, .i 0, .i 0, .nils, .nils] (ddC 1 t a o n true n false)
  have hd : doD L 1 t a o n = ⟨1, t, a, o, n, behind L t (lastW L 1 a) false, true, n, false⟩ := by simp [doD]
  obtain ⟨kb, h2, h3, B, h8, LS', h9, h10, h11, e1, e2, e2', e3, e4, e4', e5, e6, e7, e8, e9, e10, e11, e12, e13, x, H', hLa'⟩ := do_tail (k + 9) h hne N hN na np nl L cl LS CS H hL hclen 1 t a o n false (doD L 1 t a o n) (by rw [hd]) _ (by rw [hd]; exact D)
  refine ⟨h11, LS', ?_, x, H'⟩
  have r0 : ∀ b c d, rowOf (h ++ [⟨0, [.i N, .i na, .i np, .i nl, LS, CS]⟩, b, c, d]) h.length 0 = some [.i N, .i na, .i np, .i nl, LS, CS] := fun b c d => rowOf_app_eq
  have r1 : ∀ x, rowOf (h ++ [⟨0, [.i N, .i na, .i np, .i nl, LS, CS]⟩, ⟨0, [.i 1, .i t, .i a, .i o, .i n]⟩, ⟨0, [.i 0, .i 0, .i 0, .i 0, .nils, .nils]⟩, ⟨0, x⟩]) (h.length + 1) 0 = some [.i 1, .i t, .i a, .i o, .i n] := fun x => (D4.mk4 h _ _ _ _).r1
  have r1' : rowOf (h ++ [⟨0, [.i N, .i na, .i np, .i nl, LS, CS]⟩, ⟨0, [.i 1, .i t, .i a, .i o, .i n]⟩, ⟨0, [.i 0, .i 0, .i 0, .i 0, .nils, .nils]⟩]) (h.length + 1) 0 = some [.i 1, .i t, .i a, .i o, .i n] := by
    refine rowOf_at ?_
    rw [List.getElem?_append_right (by omega), show h.length + 1 - h.length = 1 by omega]; rfl
  have r3 : ∀ a b c x, rowOf (h ++ [⟨0, a⟩, ⟨0, b⟩, ⟨0, c⟩, ⟨0, x⟩]) (h.length + 3) 0 = some x := fun a b c x => (D4.mk4 h _ _ _ _).r3
  have hl1 : ∀ x : Row, (h ++ [x]).length = h.length + 1 := fun x => by simp
  have hl2 : ∀ x y : Row, (h ++ [x, y]).length = h.length + 2 := fun x y => by simp
  have hl3 : ∀ x y z : Row, (h ++ [x, y, z]).length = h.length + 3 := fun x y z => by simp
  simp only [hd, dnC, ddC] at e1 e2 e3 e5 e7
  rw [evX_fun (m := c16) rfl _ _ _ _ hne rfl]
  simp -implicitDefEqProofs only [c16, HV, hLa.1, hLa.2, hCa.1, hCa.2, hLa'.1, hLa'.2, r0, r1, r1', r3, hl1, hl2, hl3, app4_3, e1, e2, e2', e3, e4, e4', e5, e6, e7, e8, e9, e10, e11, e12, e13, List.append_assoc, push_cast, Nat.reduceAdd, Nat.reduceMul, Nat.reduceSub, Nat.reduceLT, Nat.reduceLeDiff, Nat.reduceEqDiff, Nat.reducePow, Int.reduceToNat, Int.reduceLT, Int.reduceLE, Int.reduceNeg, Int.reduceEq, Int.reducePow, reduceIte, reduceCtorEq, Int.reduceMul, Int.reduceAdd, Int.reduceSub, Int.reduceMod, Int.reduceDiv, Int.reduceTDiv, Int.reduceTMod, iter_s]
end Go.Proofs.Ytlbcandecifkcaa
