/- Each operation tells what the document says (CellDoes): a round, as the evaluator answers. -/
import Derived.Test.YtlbcandecifkcaaU30
import Derived.Test.YtlbcandecifkcaaL30
set_option linter.unusedSimpArgs false
set_option linter.unusedVariables false
set_option maxRecDepth 100000
set_option maxHeartbeats 16000000
namespace Go.Proofs.Ytlbcandecifkcaa
open Go
theorem tl172 {T : List LV} (h : T.length = 172) : T = [getT T 0, getT T 1, getT T 2, getT T 3, getT T 4, getT T 5, getT T 6, getT T 7, getT T 8, getT T 9, getT T 10, getT T 11, getT T 12, getT T 13, getT T 14, getT T 15, getT T 16, getT T 17, getT T 18, getT T 19, getT T 20, getT T 21, getT T 22, getT T 23, getT T 24, getT T 25, getT T 26, getT T 27, getT T 28, getT T 29, getT T 30, getT T 31, getT T 32, getT T 33, getT T 34, getT T 35, getT T 36, getT T 37, getT T 38, getT T 39, getT T 40, getT T 41, getT T 42, getT T 43, getT T 44, getT T 45, getT T 46, getT T 47, getT T 48, getT T 49, getT T 50, getT T 51, getT T 52, getT T 53, getT T 54, getT T 55, getT T 56, getT T 57, getT T 58, getT T 59, getT T 60, getT T 61, getT T 62, getT T 63, getT T 64, getT T 65, getT T 66, getT T 67, getT T 68, getT T 69, getT T 70, getT T 71, getT T 72, getT T 73, getT T 74, getT T 75, getT T 76, getT T 77, getT T 78, getT T 79, getT T 80, getT T 81, getT T 82, getT T 83, getT T 84, getT T 85, getT T 86, getT T 87, getT T 88, getT T 89, getT T 90, getT T 91, getT T 92, getT T 93, getT T 94, getT T 95, getT T 96, getT T 97, getT T 98, getT T 99, getT T 100, getT T 101, getT T 102, getT T 103, getT T 104, getT T 105, getT T 106, getT T 107, getT T 108, getT T 109, getT T 110, getT T 111, getT T 112, getT T 113, getT T 114, getT T 115, getT T 116, getT T 117, getT T 118, getT T 119, getT T 120, getT T 121, getT T 122, getT T 123, getT T 124, getT T 125, getT T 126, getT T 127, getT T 128, getT T 129, getT T 130, getT T 131, getT T 132, getT T 133, getT T 134, getT T 135, getT T 136, getT T 137, getT T 138, getT T 139, getT T 140, getT T 141, getT T 142, getT T 143, getT T 144, getT T 145, getT T 146, getT T 147, getT T 148, getT T 149, getT T 150, getT T 151, getT T 152, getT T 153, getT T 154, getT T 155, getT T 156, getT T 157, getT T 158, getT T 159, getT T 160, getT T 161, getT T 162, getT T 163, getT T 164, getT T 165, getT T 166, getT T 167, getT T 168, getT T 169, getT T 170, getT T 171] := tlT h
theorem hall_eq {h : List Row} {P : Nat → Prop} {L : List Dn} {cl : List (Int × Int × Int)} {LS CS : LV} (H : HAll h P L cl LS CS) : eqLV LS LS = true ∧ eqLV CS CS = true := by
  constructor
  · cases H.l with
    | nil hl hs => subst hs; rfl
    | sl k v b hl hs hr hb hp hq => subst hs; simp [eqLV]
  · rcases H.c with ⟨_, rfl | rfl⟩ | ⟨_, k, v, _, rfl, _⟩
    · rfl
    · rfl
    · simp [eqLV]
theorem Inv30.frm {h h' : List Row} {N na np nl r7 : Nat} {M M' : AM} {row row' : Tg → Nat} {L : List Dn} {LS CS : LV} {V : Nat → Nat → Int} (I : Inv30 h N na np nl r7 M row L LS CS V) (F : Frm (own M row) (own M' row') h h') :
    HAll h' (fun k => ¬ own M' row' k ∧ k ≠ r7) L M.cl LS CS ∧ rowOf h' r7 0 = some [.i N, .i na, .i np, .i nl, LS, CS] ∧ ¬ own M' row' r7 :=
  ⟨I.all.mono fun k v cs hp e => ⟨F.ext hp.1 e, F.apart (rowOf_lt e) hp.1, hp.2⟩, F.ext I.nb I.box, F.apart (rowOf_lt I.box) I.nb⟩
def fgD : List Nat := [96, 95, 4, 170, 169, 168, 167, 166, 165, 164, 163, 162, 161, 160, 159, 158, 157, 156, 155, 154, 153, 152, 151, 150, 149, 148, 147, 146, 145, 144, 143, 142, 141, 140, 139, 138, 137, 136, 135, 134, 133, 132, 131, 130, 129, 128, 127, 126, 125, 124, 123, 122, 121, 120, 119, 118, 117, 116, 115, 114, 113, 112, 111, 110, 109, 108, 107, 106, 105, 104, 103, 102, 101, 100, 99, 98, 97, 94, 93, 92, 91]
def SD (S : LV) (N na np nl r7 : Nat) (i : Nat) (s : St) : Prop := ∃ T h M row L LS CS V, s = (T, h) ∧ Inv30 h N na np nl r7 M row L LS CS V ∧ L.length ≤ i ∧ M.cl.length ≤ 80 * i ∧ T.length = 172 ∧ getT T 1 = S ∧ getT T 5 = .p (row .mem) 0 0 ∧ getT T 7 = .p r7 0 0 ∧ getT T 8 = .i i
theorem does_round (K : Nat) (hK : 6000 ≤ K) (m : Nat) (l : List Int) (S : LV) (hS : SlE 5 m l S) (hm : m ≤ 60) (N na np nl r7 : Nat) (hN : N ≤ 80) (i : Nat) (s : St) (hi : i < m) (hs : SD S N na np nl r7 i s) :
    ∃ s', evCode (evF cm K) K 0 c4b0 (cleanN fgD s) = some (.nrm, s') ∧ SD S N na np nl r7 (i + 1) s' := by
  obtain ⟨k, rfl⟩ : ∃ k, K = k + 6000 := ⟨K - 6000, by omega⟩
  obtain ⟨T, h, M, row, L, LS, CS, V, rfl, I, hLi, hci, hT, t1, t5, t7, t8⟩ := hs
  rw [tl172 hT]
  have g1 : (i : Int) < (m : Int) := by omega
  have w1 : IntKind.i64.wrap ((i : Int) + 1) = (i : Int) + 1 := w64 _ (by omega) (by omega)
  have hx := hS.ix i hi
  obtain ⟨rest, hd⟩ := drop5 l (i * 5) (by have := hS.sz; omega)
  rw [hd] at hx
  generalize l.getD (i * 5) 0 = kd at *
  generalize l.getD (i * 5 + 1) 0 = t at *
  generalize l.getD (i * 5 + 2) 0 = a at *
  generalize l.getD (i * 5 + 3) 0 = o at *
  generalize l.getD (i * 5 + 4) 0 = n at *
  have g5 : 5 ≤ rest.length + 1 + 1 + 1 + 1 + 1 := by omega
  have ro : ∀ cs, rowOf (h ++ [⟨0, cs⟩]) h.length 0 = some cs := fun cs => rowOf_app_eq
  have x1 : Ext h (h ++ [⟨0, [.i kd, .i t, .i a, .i o, .i n]⟩]) := Ext.app _ _
  by_cases hk : 0 ≤ kd ∧ kd ≤ 7
  · obtain ⟨k1, k2⟩ := hk
    have k3 : ¬ kd < 0 := by omega
    have k4 : ¬ 7 < kd := by omega
    have I1 := I.ext x1
    cases hf : fitsB N na np nl L kd t a with
    | false =>
      obtain ⟨h2, row2, e2, H2, hr2, F2⟩ := do_not (k + 5870) I1 kd t a o n ⟨k1, k2⟩ hf
      obtain ⟨A2, B2, N2⟩ := I1.frm F2
      have I2 : Inv30 h2 N na np nl r7 M row2 L LS CS V := ⟨H2, I.n, I.rel, A2, B2, N2⟩
      have nb1 : ¬ own M row h.length := own_lt I.mem (Nat.le_refl _)
      have o2 : rowOf h2 h.length 0 = some [.i kd, .i t, .i a, .i o, .i n] := F2.ext nb1 (ro _)
      have x3 : Ext h2 (h2 ++ [⟨0, [.i 0, .b false, .i 2]⟩]) := Ext.app _ _
      have I3 := I2.ext x3
      have o3 := x3.row o2
      have b3 := I3.box
      obtain ⟨h4, e4, x4⟩ := (fits_call (k + 5900) 0 _ N na np nl L M.cl LS CS I3.all kd t a o n).2 (Nat.zero_le _)
      rw [hf] at e4
      simp only [HV] at e4
      have I4 := I3.ext x4
      have b4 := I4.box
      have q2 : ∀ cs, rowOf (h2 ++ [⟨0, cs⟩]) h2.length 0 = some cs := fun cs => rowOf_app_eq
      have q4 := x4.row (q2 [.i 0, .b false, .i 2])
      have e5 := fun k => ops_ok k h4 0 M row2 I4.mem
      obtain ⟨u1, u2⟩ := hall_eq I.all
      have tk : turnK h4 h4 r7 = true := turnK_of b4 b4 (by simp [eqLs, eqLV, eqV, u1, u2])
      have hl := I.all.l.len
      have ho := I.rel.ops
      rw [hr2] at e5
      simp -implicitDefEqProofs only [c4b0, fgD, t1, t5, t7, t8, hS.len, hx, g1, g5, w1, ro, app1_0, k3, k4, e2, o2, o3, b3, e4, b4, q2, q4, e5, tk, hl, ho, eq_self, push_cast, Nat.reduceAdd, Nat.reduceMul, Nat.reduceSub, Nat.reduceLT, Nat.reduceLeDiff, Nat.reduceEqDiff, Nat.reducePow, Int.reduceToNat, Int.reduceLT, Int.reduceLE, Int.reduceNeg, Int.reduceEq, Int.reducePow, reduceIte, reduceCtorEq, Int.reduceMul, Int.reduceAdd, Int.reduceSub, Int.reduceMod, Int.reduceDiv, Int.reduceTDiv, Int.reduceTMod, iter_s]
      have fin : ∀ T', T'.length = 172 → getT T' 1 = S → getT T' 5 = .p (row .mem) 0 0 → getT T' 7 = .p r7 0 0 → getT T' 8 = .i ((i : Int) + 1) → SD S N na np nl r7 (i + 1) (T', h4) :=
        fun T' q0 q1 q5 q7 q8 => ⟨T', _, M, row2, L, LS, CS, V, rfl, I4, by omega, by omega, q0, q1, by rw [hr2]; exact q5, q7, q8⟩
      exact ⟨_, rfl, fin _ rfl rfl rfl rfl rfl⟩
    | true =>
      have hLlen : L.length < 60 := by omega
      obtain ⟨h2, row2, V2, e2, H2, hr2, F2, R2, c2, n1, n2, n3, n4⟩ := do_fits (k + 5870) I1 (by omega) (by omega) kd t a o n hf
      obtain ⟨A2, B2, N2⟩ := I1.frm F2
      have nb1 : ¬ own M row h.length := own_lt I.mem (Nat.le_refl _)
      have o2 : rowOf h2 h.length 0 = some [.i kd, .i t, .i a, .i o, .i n] := F2.ext nb1 (ro _)
      have nb2 : ¬ own (doM M kd t.toNat a.toNat o n) row2 h.length := F2.apart (by simp) nb1
      have hr7h : r7 < h.length := rowOf_lt I.box
      generalize hM2 : doM M kd t.toNat a.toNat o n = M2 at *
      generalize hdd : doD L kd t a o n = dd at *
      have hh2 : h.length < h2.length := rowOf_lt o2
      obtain ⟨nV, hnV⟩ : ∃ nV, nV = if kd = 0 ∨ kd = 3 then dd.v else 0 := ⟨_, rfl⟩
      rw [← hnV] at e2
      have x3 : Ext h2 (h2 ++ [⟨0, [.i nV, .b dd.is, .i 0]⟩]) := Ext.app _ _
      have A3 := A2.ext x3
      have o3 := x3.row o2
      have b3 := x3.row B2
      obtain ⟨h4, e4, x4⟩ := (fits_call (k + 5900) 0 _ N na np nl L M.cl LS CS A3 kd t a o n).2 (Nat.zero_le _)
      rw [hf] at e4
      have A4 := A3.ext x4
      have b4 := x4.row b3
      have o4 := x4.row o3
      have H4 := (x3.trans x4).mem H2
      have q2 : ∀ cs, rowOf (h2 ++ [⟨0, cs⟩]) h2.length 0 = some cs := fun cs => rowOf_app_eq
      have q4 := x4.row (q2 [.i nV, .b dd.is, .i 0])
      have hr74 : r7 < h4.length := rowOf_lt b4
      have hi4 : h.length < h4.length := rowOf_lt o4
      obtain ⟨h5, LS', CS', e5, x5, A5⟩ := do_ok (k + 5900) h4 H4.ne0 N hN na np nl L M.cl LS CS A4 hLlen (by omega) t a o n kd ⟨k1, k2⟩
      rw [hdd] at A5
      rw [← c2] at A5
      have b5 := x5.row b4
      have o5 := x5.row o4
      have q5 := x5.row q4
      have H5 := x5.mem H4
      have hr75 : r7 < h5.length := rowOf_lt b5
      have hqn : h2.length ≠ r7 := by have := rowOf_lt B2; omega
      obtain ⟨h6, hh6⟩ : ∃ h6, h6 = h5.set r7 ⟨0, [.i N, .i na, .i np, .i nl, LS', CS']⟩ := ⟨_, rfl⟩
      have b6 : rowOf h6 r7 0 = some [.i N, .i na, .i np, .i nl, LS', CS'] := by rw [hh6]; exact rowOf_set_eq hr75
      have o6 : rowOf h6 h.length 0 = some [.i kd, .i t, .i a, .i o, .i n] := by rw [hh6, rowOf_set_ne (by omega)]; exact o5
      have q6 : rowOf h6 h2.length 0 = some [.i nV, .b dd.is, .i 0] := by rw [hh6, rowOf_set_ne (Ne.symm hqn)]; exact q5
      have H6 : MemAt h6 M2 row2 := H5.keep fun j hj => by rw [hh6]; exact List.getElem?_set_ne (by rintro rfl; exact N2 hj)
      have A6 : HAll h6 (fun k => ¬ own M2 row2 k ∧ k ≠ r7) (L ++ [dd]) M2.cl LS' CS' := by
        refine A5.mono fun j v cs hp e => ?_
        have hP : ¬ own M2 row2 j ∧ j ≠ r7 := by
          rcases hp with hp | hp
          · exact hp.1
          · exact ⟨own_lt H4 (by omega), by omega⟩
        refine ⟨?_, hP⟩
        rw [hh6, rowOf_set_ne (Ne.symm hP.2)]; exact e
      obtain ⟨kk, v, b, hls, hr, hb, hbl⟩ := A6.at' (i := L.length) (by simp)
      have hlen : (L ++ [dd]).length = L.length + 1 := by simp
      rw [hlen] at hls hr
      rw [dn_last] at hb hbl
      obtain ⟨-, -, -, -, -, q9⟩ := dCells_get (b := b) (L := L ++ [dd]) (n := L.length + 1) (i := L.length) (by omega)
      rw [dn_last] at q9
      have q9l : L.length * 9 + 9 ≤ (dCells b (L ++ [dd]) (L.length + 1)).length := by rw [dCells_len]; omega
      have gl1 : IntKind.i64.wrap ((L.length : Int) + 1 - 1) = (L.length : Int) := by rw [w64 _ (by omega) (by omega)]; omega
      have gl2 : (L.length : Int) < (L.length : Int) + 1 := by omega
      have gl3 : (0 : Int) ≤ (L.length : Int) := by omega
      have hops : M2.ops = (L.length : Int) + 1 := by have := R2.ops; rw [hlen] at this; omega
      have hclb : M2.cl.length ≤ 80 * (i + 1) := by
        rw [c2, List.length_append]
        split
        · have := hcl_len L dd N; omega
        · simp; omega
      clear A5 A4 A3
      subst hls
      obtain ⟨dC, hdC⟩ : ∃ dC : List LV, dC = [.i dd.k, .i dd.t, .i dd.a, .i dd.o, .i dd.n, .sl (b L.length) 0 0 L.length 1 L.length, .b dd.w, .i dd.v, .b dd.is] := ⟨_, rfl⟩
      obtain ⟨h7, hh7⟩ : ∃ h7, h6 ++ [⟨0, dC⟩, ⟨0, [.i nV, .b dd.is, .i 0]⟩] = h7 := ⟨_, rfl⟩
      have x7 : Ext h6 h7 := by rw [← hh7]; exact Ext.app _ _
      have d0 : ∀ cs, rowOf (h6 ++ [⟨0, cs⟩]) h6.length 0 = some cs := fun cs => rowOf_app_eq
      have d1 : ∀ cs y, rowOf (h6 ++ [⟨0, cs⟩, y]) h6.length 0 = some cs := fun cs y => rowOf_app_eq
      have d2 : ∀ x cs, rowOf (h6 ++ [x, ⟨0, cs⟩]) (h6.length + 1) 0 = some cs := fun x cs => by
        refine rowOf_at ?_
        rw [List.getElem?_append_right (by omega), show h6.length + 1 - h6.length = 1 by omega]; rfl
      have d4 : ∀ x, rowOf (h6 ++ x) h.length 0 = some [.i kd, .i t, .i a, .i o, .i n] := fun x => by rw [rowOf_app_lt (rowOf_lt o6)]; exact o6
      have hl6 : ∀ x : Row, (h6 ++ [x]).length = h6.length + 1 := fun x => by simp
      have b7 := x7.row b6
      have o7 := x7.row o6
      have q7 := x7.row q6
      have w7 : rowOf h7 (h6.length + 1) 0 = some [.i nV, .b dd.is, .i 0] := by rw [← hh7]; exact d2 _ _
      have H7 := x7.mem H6
      have A7 := A6.ext x7
      have e7 := fun k => ops_ok k h7 0 M2 row2 H7
      have e8 := fun k => clashes_ok k h7 M2 row2 H7 (by omega)
      have x8 : Ext h7 (h7 ++ clT M2.cl) := Ext.app _ _
      have s1 : C3At (h7 ++ clT M2.cl) (fun _ => True) M2.cl (clS h7.length M2.cl) := by
        by_cases hc : M2.cl = []
        · exact .inl ⟨hc, .inl (by rw [clS, if_pos hc])⟩
        · refine .inr ⟨hc, h7.length, 0, trivial, by rw [clS, if_neg hc], ?_⟩
          rw [clT, if_neg hc]; exact rowOf_app_eq
      have e9 := same_call (k + 5999) 0 (by omega) (h7 ++ clT M2.cl) M2.cl (by omega) (by omega) _ _ s1 (A7.ext x8).c
      obtain ⟨u1, u2⟩ := hall_eq A7
      have tk1 : turnK h7 h7 r7 = true := turnK_of b7 b7 (by simp [eqLs, eqLV, eqV, u2])
      have tk2 : turnK h7 (h7 ++ clT M2.cl) r7 = true := turnK_of b7 (x8.row b7) (by simp [eqLs, eqLV, eqV, u2])
      rw [hr2] at e7 e8
      have ca := A6.c.atm
      have fin : ∀ T', T'.length = 172 → getT T' 1 = S → getT T' 5 = .p (row .mem) 0 0 → getT T' 7 = .p r7 0 0 → getT T' 8 = .i ((i : Int) + 1) → SD S N na np nl r7 (i + 1) (T', h7 ++ clT M2.cl) :=
        fun T' q0 q1 q5 q7 q8 => ⟨T', _, M2, row2, L ++ [dd], _, CS', V2, rfl, ⟨x8.mem H7, ⟨n1, n2, n3, n4⟩, R2, A7.ext x8, x8.row b7, N2⟩, by rw [hlen]; omega, hclb, q0, q1, by rw [hr2]; exact q5, q7, q8⟩
      simp only [HV] at e4 e5
      have hh6' := hh6.symm
      subst hdC
      by_cases c0 : kd = 0
      · subst c0
        have hv0 : nV = dd.v := by rw [hnV, if_pos (by omega)]
        subst hv0
        simp -implicitDefEqProofs only [c4b0, fgD, t1, t5, t7, t8, hS.len, hx, g1, g5, w1, ro, app1_0, app2_1, e2, o2, o3, b3, q2, e4, e5, b4, o4, b5, q5, hh6', b6, o6, q6, hr, q9, q9l, gl1, gl2, gl3, d0, d1, d2, d4, hl6, hh7, b7, o7, q7, w7, e7, e8, e9, tk1, tk2, hops, ca.1, ca.2, eq_self, List.append_assoc, push_cast, Nat.reduceAdd, Nat.reduceMul, Nat.reduceSub, Nat.reduceLT, Nat.reduceLeDiff, Nat.reduceEqDiff, Nat.reducePow, Int.reduceToNat, Int.reduceLT, Int.reduceLE, Int.reduceNeg, Int.reduceEq, Int.reducePow, reduceIte, reduceCtorEq, Int.reduceMul, Int.reduceAdd, Int.reduceSub, Int.reduceMod, Int.reduceDiv, Int.reduceTDiv, Int.reduceTMod, iter_s]
        exact ⟨_, rfl, fin _ rfl rfl rfl rfl rfl⟩
      · by_cases c3 : kd = 3
        · subst c3
          have hv0 : nV = dd.v := by rw [hnV, if_pos (by omega)]
          subst hv0
          simp -implicitDefEqProofs only [c4b0, fgD, t1, t5, t7, t8, hS.len, hx, g1, g5, w1, ro, app1_0, app2_1, e2, o2, o3, b3, q2, e4, e5, b4, o4, b5, q5, hh6', b6, o6, q6, hr, q9, q9l, gl1, gl2, gl3, d0, d1, d2, d4, hl6, hh7, b7, o7, q7, w7, e7, e8, e9, tk1, tk2, hops, ca.1, ca.2, eq_self, List.append_assoc, push_cast, Nat.reduceAdd, Nat.reduceMul, Nat.reduceSub, Nat.reduceLT, Nat.reduceLeDiff, Nat.reduceEqDiff, Nat.reducePow, Int.reduceToNat, Int.reduceLT, Int.reduceLE, Int.reduceNeg, Int.reduceEq, Int.reducePow, reduceIte, reduceCtorEq, Int.reduceMul, Int.reduceAdd, Int.reduceSub, Int.reduceMod, Int.reduceDiv, Int.reduceTDiv, Int.reduceTMod, iter_s]
          exact ⟨_, rfl, fin _ rfl rfl rfl rfl rfl⟩
        · have hv0 : nV = 0 := by rw [hnV, if_neg (by omega)]
          subst hv0
          simp -implicitDefEqProofs only [c4b0, fgD, t1, t5, t7, t8, hS.len, hx, g1, g5, w1, ro, app1_0, app2_1, k3, k4, e2, o2, o3, b3, q2, e4, e5, b4, o4, b5, q5, hh6', b6, o6, q6, hr, q9, q9l, gl1, gl2, gl3, d0, d1, d2, d4, hl6, hh7, b7, o7, q7, w7, e7, e8, e9, tk1, tk2, hops, ca.1, ca.2, c0, c3, eq_self, List.append_assoc, push_cast, Nat.reduceAdd, Nat.reduceMul, Nat.reduceSub, Nat.reduceLT, Nat.reduceLeDiff, Nat.reduceEqDiff, Nat.reducePow, Int.reduceToNat, Int.reduceLT, Int.reduceLE, Int.reduceNeg, Int.reduceEq, Int.reducePow, reduceIte, reduceCtorEq, Int.reduceMul, Int.reduceAdd, Int.reduceSub, Int.reduceMod, Int.reduceDiv, Int.reduceTDiv, Int.reduceTMod, iter_s]
          exact ⟨_, rfl, fin _ rfl rfl rfl rfl rfl⟩
  · have hor : kd < 0 ∨ 7 < kd := by omega
    have fin : ∀ T', T'.length = 172 → getT T' 1 = S → getT T' 5 = .p (row .mem) 0 0 → getT T' 7 = .p r7 0 0 → getT T' 8 = .i ((i : Int) + 1) → SD S N na np nl r7 (i + 1) (T', h ++ [⟨0, [.i kd, .i t, .i a, .i o, .i n]⟩]) :=
      fun T' e0 e1 e5 e7 e8 => ⟨T', _, M, row, L, LS, CS, V, rfl, I.ext x1, by omega, by omega, e0, e1, e5, e7, e8⟩
    by_cases hk1 : kd < 0
    · simp -implicitDefEqProofs only [c4b0, fgD, t1, t5, t7, t8, hS.len, hx, g1, g5, w1, ro, app1_0, hk1, push_cast, Nat.reduceAdd, Nat.reduceMul, Nat.reduceSub, Nat.reduceLT, Nat.reduceLeDiff, Nat.reduceEqDiff, Nat.reducePow, Int.reduceToNat, Int.reduceLT, Int.reduceLE, Int.reduceNeg, Int.reduceEq, Int.reducePow, reduceIte, reduceCtorEq, Int.reduceMul, Int.reduceAdd, Int.reduceSub, Int.reduceMod, Int.reduceDiv, Int.reduceTDiv, Int.reduceTMod, iter_s]
      exact ⟨_, rfl, fin _ rfl rfl rfl rfl rfl⟩
    · have hk2 : 7 < kd := by omega
      simp -implicitDefEqProofs only [c4b0, fgD, t1, t5, t7, t8, hS.len, hx, g1, g5, w1, ro, app1_0, hk1, hk2, push_cast, Nat.reduceAdd, Nat.reduceMul, Nat.reduceSub, Nat.reduceLT, Nat.reduceLeDiff, Nat.reduceEqDiff, Nat.reducePow, Int.reduceToNat, Int.reduceLT, Int.reduceLE, Int.reduceNeg, Int.reduceEq, Int.reducePow, reduceIte, reduceCtorEq, Int.reduceMul, Int.reduceAdd, Int.reduceSub, Int.reduceMod, Int.reduceDiv, Int.reduceTDiv, Int.reduceTMod, iter_s]
      exact ⟨_, rfl, fin _ rfl rfl rfl rfl rfl⟩
end Go.Proofs.Ytlbcandecifkcaa
