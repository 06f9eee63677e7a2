/- A run at a ring: a worker's step, path by path, as the evaluator answers. -/
import Derived.Test.YtcmlnjkbdlakfaaR2P
set_option linter.unusedSimpArgs false
set_option linter.unusedVariables false
set_option linter.unusedSectionVars false
set_option maxRecDepth 100000
set_option maxHeartbeats 16000000
namespace Go.Proofs.Ytcmlnjkbdlakfaa
open Go
section
variable {S1 S2 : LV} {K W i : Nat} {l : List Int} {h : List Row} {g : GM} {C : List Int} {row : Tg → Nat} {gr : GR → Nat}
theorem g1_a {F : Nat} {Tk : Nat → Int} {u : Nat} {o : RO} (hw : (stepR ⟨g.M, g.R, o⟩ u).o.w = 0) : gwork1 F Tk g u (g.w u) o = { g with M := (stepR ⟨g.M, g.R, o⟩ u).M, R := (stepR ⟨g.M, g.R, o⟩ u).R, w := upd g.w u { g.w u with o := some (stepR ⟨g.M, g.R, o⟩ u).o } } := by
  unfold gwork1; dsimp only; rw [if_pos hw]
theorem g1_bc {F : Nat} {Tk : Nat → Int} {u : Nat} {o : RO} (hw : (stepR ⟨g.M, g.R, o⟩ u).o.w ≠ 0) (hl : 0 < (g.w u).left) : gwork1 F Tk g u (g.w u) o = { g with M := (stepR ⟨g.M, g.R, o⟩ u).M, R := (stepR ⟨g.M, g.R, o⟩ u).R, w := upd g.w u ⟨none, (g.w u).frame, (g.w u).left - 1, false⟩, done := if (g.w u).left = 1 then g.done + 1 else g.done, wrong := g.wrong || (decide ((stepR ⟨g.M, g.R, o⟩ u).o.w = 1) != decide ((g.w u).left = 1)) } := by
  unfold gwork1; dsimp only; rw [if_neg hw, if_pos hl]
theorem g1_d {F : Nat} {Tk : Nat → Int} {u : Nat} {o : RO} (hw : (stepR ⟨g.M, g.R, o⟩ u).o.w = 1) (hl : ¬ 0 < (g.w u).left) (hwr : (gwork1 F Tk g u (g.w u) o).wrong = false) : ((stepR ⟨g.M, g.R, o⟩ u).o.frame = (g.ncl : Int) ∧ (stepR ⟨g.M, g.R, o⟩ u).o.frame = (g.done : Int) ∧ ¬ (F : Int) ≤ (stepR ⟨g.M, g.R, o⟩ u).o.frame) ∧ gwork1 F Tk g u (g.w u) o = { g with M := (stepR ⟨g.M, g.R, o⟩ u).M, R := (stepR ⟨g.M, g.R, o⟩ u).R, w := upd g.w u ⟨none, (stepR ⟨g.M, g.R, o⟩ u).o.frame, Tk (stepR ⟨g.M, g.R, o⟩ u).o.frame.toNat, (g.w u).read⟩, ncl := g.ncl + 1, wrong := false } := by
  unfold gwork1 at hwr ⊢
  dsimp only at hwr ⊢
  rw [if_neg (show ¬ (stepR ⟨g.M, g.R, o⟩ u).o.w = 0 by omega), if_neg hl, if_pos hw] at hwr ⊢
  dsimp only at hwr
  rw [hwr]
  simp only [Bool.or_eq_false_iff, decide_eq_false_iff_not, Decidable.not_not] at hwr
  refine ⟨⟨hwr.1.1.2, hwr.1.2, hwr.2⟩, by simp⟩
theorem g1_e {F : Nat} {Tk : Nat → Int} {u : Nat} {o : RO} (hw : (stepR ⟨g.M, g.R, o⟩ u).o.w ≠ 0) (hw1 : (stepR ⟨g.M, g.R, o⟩ u).o.w ≠ 1) (hl : ¬ 0 < (g.w u).left) : gwork1 F Tk g u (g.w u) o = { g with M := (stepR ⟨g.M, g.R, o⟩ u).M, R := (stepR ⟨g.M, g.R, o⟩ u).R, w := upd g.w u { g.w u with o := none } } := by
  unfold gwork1; dsimp only; rw [if_neg hw, if_neg hl, if_neg hw1]
theorem cl_eq (n : Nat) (g : GM) (gr : GR → Nat) : eqLs (cl n (qc g gr)) (cl n (qc g gr)) = true := by
  unfold cl
  generalize List.range n = l
  induction l with
  | nil => rfl
  | cons x l ih =>
    have : eqLV (qc g gr x) (qc g gr x) = true := by
      unfold qc opP
      split
      · split <;> simp [eqLV, eqV]
      split
      · simp [eqLV, eqV]
      split <;> simp [eqLV, eqV]
    simp only [List.map_cons, eqLs, this, ih, Bool.and_self]
theorem work_has_a (k : Nat) (A : GAt S1 S2 K W h g C row gr) (I : CtlI K l.length W (tkF l) g) (Y : AX K W i g) (hK : K ≤ 8) (hF : l.length ≤ 8) (hi : i ≤ 10000) (hS : SlI l S1) (z1 : eqLV S1 S1 = true) (z2 : eqLV S2 S2 = true) (hC : C.length = g.ncl) {u t : Nat} (hu : u = t + 1) (hu2 : u ≤ W) (hW : W ≤ 5) {o : RO} (H : OpOk g i u o) (ho : (g.w u).o = some o) (hrd : ¬ (0 < (g.w u).left ∧ (g.w u).read = false)) (hw : (stepR ⟨g.M, g.R, o⟩ u).o.w = 0) :
    ∃ h' row' gr', evF cm (k + 140) 11 [.p (gr .gm) 0 0, .i u] h 0 = some (.tup [], h') ∧ GAt S1 S2 K W h' (gwork1 l.length (tkF l) g u (g.w u) o) C row' gr' ∧ gr' .gm = gr .gm ∧ gr' .pp = gr .pp ∧ row' .mem = row .mem := by
  have u1 : 1 ≤ u := by omega
  have q1 := A.rgm
  obtain ⟨F, hFq, q2, f0, f1, f2, f3⟩ := A.view hu
  have r1 := rowOf_lt q1
  have r2 := rowOf_lt q2
  have AB : GAt S1 S2 K W h { g with w := upd g.w u { g.w u with o := some o } } C row gr := A.cast (by rw [upd_id _ _ _ (wk_eta ho)])
  obtain ⟨hB, hhB⟩ : ∃ hB, h = hB := ⟨_, rfl⟩
  obtain ⟨gB, hgB⟩ : ∃ gB, gr = gB := ⟨_, rfl⟩
  rw [hhB, hgB] at AB
  have c1 : gB .gm = gr .gm := by rw [hgB]
  have c8 : gB .pp = gr .pp := by rw [hgB]
  have c2 : gB .rg = gr .rg := by rw [hgB]
  have c3 : gB .ls = gr .ls := by rw [hgB]
  have c4 : gB .cl = gr .cl := by rw [hgB]
  have c6 : pubP g gB = pubP g gr := by rw [hgB]
  obtain ⟨h2, row2, e18, A2, hrm⟩ := wmid (k + 23) AB I Y hK hF hi u1 hu2 H
  have k1 := A2.rgm
  have sg := set_self (at_rowOf k1)
  obtain ⟨F2, hF2, k2, y0, y1, y2, y3⟩ := A2.view hu
  have hne := A.ne0
  have hne2 := A2.ne0
  simp only [opP, upd_same] at y0 y1 y2 y3
  have X6 : ∀ M R w nx nc dn wr, pubP ⟨M, R, g.pub, nx, w, nc, dn, wr⟩ gB = pubP g gB := fun _ _ _ _ _ _ _ => rfl
  rw [hw] at e18
  simp only [decide_true, Bool.not_true] at e18
  have AZ := A2.cast (g1_a (F := l.length) (Tk := tkF l) hw).symm
  refine ⟨h2, row2, gB, ?_, AZ, c1, c8, hrm⟩
  simp only [gmC, hrm, X6] at q1 k1 sg
  subst hgB hhB
  have w0 : IntKind.i64.wrap ((u : Int) - 1) = (t : Int) := by rw [w64 _ (by omega) (by omega)]; omega
  have g1 : (t : Int) < (W : Int) := by omega
  have g2 : (0 : Int) ≤ (t : Int) := by omega
  have b0 : t * 4 < W * 4 := by omega
  have b1 : t * 4 + 1 < W * 4 := by omega
  have b2 : t * 4 + 2 < W * 4 := by omega
  have b3 : t * 4 + 3 < W * 4 := by omega
  have b4 : t * 4 + 1 ≤ W * 4 := by omega
  have b5 : t * 4 + 2 ≤ W * 4 := by omega
  have b6 : t * 4 + 3 ≤ W * 4 := by omega
  have b7 : t * 4 + 4 ≤ W * 4 := by omega
  have b8 : t * 4 + 1 + 1 ≤ W * 4 := by omega
  have b9 : t * 4 + 2 + 1 ≤ W * 4 := by omega
  have ba : t * 4 + 3 + 1 ≤ W * 4 := by omega
  simp only [opP, ho] at f0
  rw [evX_fun (m := c11) rfl _ _ _ _ A.ne0 rfl]
  by_cases hl : 0 < (g.w u).left
  · have hr : (g.w u).read = true := by cases hh : (g.w u).read with | true => rfl | false => exact absurd ⟨hl, hh⟩ hrd
    rw [hr] at f3
    simp -implicitDefEqProofs (maxSteps := 1000000) only [hl, c11, q1, k1, sg, e18, k2, y0, y1, y2, y3, q2, f0, f1, f2, f3, w0, g1, g2, b0, b1, b2, b3, b4, b5, b6, b7, b8, b9, ba, cl_get, cl_length, cl_put, evX_P, evX_N, push_cast, Nat.reduceAdd, Nat.reduceMul, Nat.reduceSub, Nat.reduceLT, Nat.reduceLeDiff, Nat.reduceEqDiff, Nat.reducePow, Int.reduceToNat, Int.reduceLT, Int.reduceLE, Int.reduceNeg, Int.reduceEq, Int.reducePow, reduceIte, reduceCtorEq, Int.reduceMul, Int.reduceAdd, Int.reduceSub, Int.reduceMod, Int.reduceDiv, Int.reduceTDiv, Int.reduceTMod, iter_s]
  · simp -implicitDefEqProofs (maxSteps := 1000000) only [hl, c11, q1, k1, sg, e18, k2, y0, y1, y2, y3, q2, f0, f1, f2, f3, w0, g1, g2, b0, b1, b2, b3, b4, b5, b6, b7, b8, b9, ba, cl_get, cl_length, cl_put, evX_P, evX_N, push_cast, Nat.reduceAdd, Nat.reduceMul, Nat.reduceSub, Nat.reduceLT, Nat.reduceLeDiff, Nat.reduceEqDiff, Nat.reducePow, Int.reduceToNat, Int.reduceLT, Int.reduceLE, Int.reduceNeg, Int.reduceEq, Int.reducePow, reduceIte, reduceCtorEq, Int.reduceMul, Int.reduceAdd, Int.reduceSub, Int.reduceMod, Int.reduceDiv, Int.reduceTDiv, Int.reduceTMod, iter_s]
theorem work_has_b (k : Nat) (A : GAt S1 S2 K W h g C row gr) (I : CtlI K l.length W (tkF l) g) (Y : AX K W i g) (hK : K ≤ 8) (hF : l.length ≤ 8) (hi : i ≤ 10000) (hS : SlI l S1) (z1 : eqLV S1 S1 = true) (z2 : eqLV S2 S2 = true) (hC : C.length = g.ncl) {u t : Nat} (hu : u = t + 1) (hu2 : u ≤ W) (hW : W ≤ 5) {o : RO} (H : OpOk g i u o) (ho : (g.w u).o = some o) (hrd : ¬ (0 < (g.w u).left ∧ (g.w u).read = false)) (hl1 : (g.w u).left = 1) (hw : (stepR ⟨g.M, g.R, o⟩ u).o.w = 1) :
    ∃ h' row' gr', evF cm (k + 140) 11 [.p (gr .gm) 0 0, .i u] h 0 = some (.tup [], h') ∧ GAt S1 S2 K W h' (gwork1 l.length (tkF l) g u (g.w u) o) C row' gr' ∧ gr' .gm = gr .gm ∧ gr' .pp = gr .pp ∧ row' .mem = row .mem := by
  have u1 : 1 ≤ u := by omega
  have q1 := A.rgm
  obtain ⟨F, hFq, q2, f0, f1, f2, f3⟩ := A.view hu
  have r1 := rowOf_lt q1
  have r2 := rowOf_lt q2
  have AB : GAt S1 S2 K W h { g with w := upd g.w u { g.w u with o := some o } } C row gr := A.cast (by rw [upd_id _ _ _ (wk_eta ho)])
  obtain ⟨hB, hhB⟩ : ∃ hB, h = hB := ⟨_, rfl⟩
  obtain ⟨gB, hgB⟩ : ∃ gB, gr = gB := ⟨_, rfl⟩
  rw [hhB, hgB] at AB
  have c1 : gB .gm = gr .gm := by rw [hgB]
  have c8 : gB .pp = gr .pp := by rw [hgB]
  have c2 : gB .rg = gr .rg := by rw [hgB]
  have c3 : gB .ls = gr .ls := by rw [hgB]
  have c4 : gB .cl = gr .cl := by rw [hgB]
  have c6 : pubP g gB = pubP g gr := by rw [hgB]
  obtain ⟨h2, row2, e18, A2, hrm⟩ := wmid (k + 23) AB I Y hK hF hi u1 hu2 H
  have k1 := A2.rgm
  have sg := set_self (at_rowOf k1)
  obtain ⟨F2, hF2, k2, y0, y1, y2, y3⟩ := A2.view hu
  have hne := A.ne0
  have hne2 := A2.ne0
  simp only [opP, upd_same] at y0 y1 y2 y3
  have X6 : ∀ M R w nx nc dn wr, pubP ⟨M, R, g.pub, nx, w, nc, dn, wr⟩ gB = pubP g gB := fun _ _ _ _ _ _ _ => rfl
  rw [decide_eq_false (show ¬ (stepR ⟨g.M, g.R, o⟩ u).o.w = 0 by omega)] at e18
  simp only [Bool.not_false] at e18
  have k9 := A2.rop u1 hu2 (o := (stepR ⟨g.M, g.R, o⟩ u).o) (by dsimp only; rw [upd_same])
  have ew0 := fun k => why_ok k _ k9
  have tk : turnK h2 h2 (gr .gm) = true := turnK_of (c1 ▸ k1) (c1 ▸ k1) (gmC_eq z1 z2 _ _ _ _ (by unfold pubP; split <;> simp [eqLV, eqV]) _ _ _ _ _)
  have hl : 0 < (g.w u).left := by omega
  have hl0 : (g.w u).left - 1 = 0 := by omega
  have A3 := A2.left hu 0
  simp only [upd_same, upd_upd] at A3
  rw [hF2] at A3
  obtain ⟨h3, hh3⟩ : ∃ h3, h2.set (gB .ls) ⟨0, cl (W * 4) (upd F2 (t * 4 + 2) (.i 0))⟩ = h3 := ⟨_, rfl⟩
  rw [hh3] at A3
  have m1 := A3.rgm
  obtain ⟨F3, hF3, m2, v0, v1, v2, v3⟩ := A3.view hu
  simp only [opP, upd_same] at v0 v1 v2 v3
  have A4 := A3.read hu false
  simp only [upd_same, upd_upd] at A4
  rw [hF3] at A4
  obtain ⟨h4, hh4⟩ : ∃ h4, h3.set (gB .ls) ⟨0, cl (W * 4) (upd F3 (t * 4 + 3) (.b false))⟩ = h4 := ⟨_, rfl⟩
  rw [hh4] at A4
  have n1 := A4.rgm
  have sg4 := set_self (at_rowOf n1)
  obtain ⟨F4, hF4, n2, t0, t1, t2, t3⟩ := A4.view hu
  simp only [opP, upd_same] at t0 t1 t2 t3
  have n9 := A4.rop u1 hu2 (o := (stepR ⟨g.M, g.R, o⟩ u).o) (by dsimp only; rw [upd_same])
  have ew := fun k => why_ok k _ n9
  have tk4 : turnK h4 h4 (gr .gm) = true := turnK_of (c1 ▸ n1) (c1 ▸ n1) (gmC_eq z1 z2 _ _ _ _ (by unfold pubP; split <;> simp [eqLV, eqV]) _ _ _ _ _)
  have tk5 : turnK h4 h4 (gr .ls) = true := turnK_of (c3 ▸ n2) (c3 ▸ n2) (by rw [← hF4]; exact cl_eq _ _ _)
  have hne3 := A3.ne0
  have hne4 := A4.ne0
  have N6 := n1
  have A5 := A4.nums g.next (g.done + 1)
  obtain ⟨h5, hh5⟩ : ∃ h5, h4.set (gB .gm) ⟨0, gmC S1 S2 K W (row2 .mem) (gB .rg) (pubP g gB) (gB .ls) g.next (outG 1 (gB .cl) C.length) (g.done + 1)⟩ = h5 := ⟨_, rfl⟩
  have A5 := A5.cast (g' := { g with M := (stepR ⟨g.M, g.R, o⟩ u).M, R := (stepR ⟨g.M, g.R, o⟩ u).R, w := upd g.w u ⟨some (stepR ⟨g.M, g.R, o⟩ u).o, (g.w u).frame, 0, false⟩, done := g.done + 1 }) rfl
  have hh5' : h4.set (gB .gm) ⟨0, gmC S1 S2 K W (row2 .mem) (gB .rg) (pubP { g with M := (stepR ⟨g.M, g.R, o⟩ u).M, R := (stepR ⟨g.M, g.R, o⟩ u).R, w := upd g.w u ⟨some (stepR ⟨g.M, g.R, o⟩ u).o, (g.w u).frame, 0, false⟩ } gB) (gB .ls) g.next (outG 1 (gB .cl) C.length) (g.done + 1)⟩ = h5 := hh5
  rw [hh5'] at A5
  obtain ⟨F5, hF5, o2, s0, s1, s2, s3⟩ := A5.view hu
  simp only [opP, upd_same] at s0 s1 s2 s3
  have A6 := A5.drop hu
  simp only [upd_same, upd_upd] at A6
  rw [hF5] at A6
  have hne5 := A5.ne0
  have w4 : IntKind.i64.wrap ((g.done : Int) + 1) = ((g.done + 1 : Nat) : Int) := by have := I.b; rw [w64 _ (by omega) (by omega)]; omega
  have w3 : IntKind.i64.wrap ((1 : Int) - 1) = 0 := rfl
  have gx := g1_bc (F := l.length) (Tk := tkF l) (show (stepR ⟨g.M, g.R, o⟩ u).o.w ≠ 0 by omega) hl
  rw [if_pos hl1, hl0] at gx
  have AZ := (A6.same g.ncl (g.wrong || (decide ((stepR ⟨g.M, g.R, o⟩ u).o.w = 1) != decide ((g.w u).left = 1)))).cast gx.symm
  rw [c3] at AZ
  refine ⟨h5.set (gr .ls) ⟨0, cl (W * 4) (upd F5 (t * 4) (.v (.pointer none)))⟩, row2, gB, ?_, AZ, c1, c8, hrm⟩
  simp only [gmC, hrm, X6] at q1 k1 sg m1 n1 sg4 hh5
  subst hgB hhB
  rw [hl1] at f2 y2
  rw [hw] at ew ew0
  have w0 : IntKind.i64.wrap ((u : Int) - 1) = (t : Int) := by rw [w64 _ (by omega) (by omega)]; omega
  have g1 : (t : Int) < (W : Int) := by omega
  have g2 : (0 : Int) ≤ (t : Int) := by omega
  have b0 : t * 4 < W * 4 := by omega
  have b1 : t * 4 + 1 < W * 4 := by omega
  have b2 : t * 4 + 2 < W * 4 := by omega
  have b3 : t * 4 + 3 < W * 4 := by omega
  have b4 : t * 4 + 1 ≤ W * 4 := by omega
  have b5 : t * 4 + 2 ≤ W * 4 := by omega
  have b6 : t * 4 + 3 ≤ W * 4 := by omega
  have b7 : t * 4 + 4 ≤ W * 4 := by omega
  have b8 : t * 4 + 1 + 1 ≤ W * 4 := by omega
  have b9 : t * 4 + 2 + 1 ≤ W * 4 := by omega
  have ba : t * 4 + 3 + 1 ≤ W * 4 := by omega
  generalize ((g.done + 1 : Nat) : Int) = dn at *
  simp only [opP, ho] at f0
  rw [evX_fun (m := c11) rfl _ _ _ _ A.ne0 rfl]
  have hr : (g.w u).read = true := by cases hh : (g.w u).read with | true => rfl | false => exact absurd ⟨hl, hh⟩ hrd
  rw [hr] at f3
  simp -implicitDefEqProofs (maxSteps := 1000000) only [c11, q1, k1, sg, e18, k2, y0, y1, y2, y3, q2, f0, f1, f2, f3, ew0, tk, ew, hh3, hh4, m1, m2, v0, v1, v2, v3, n1, n2, t0, t1, t2, t3, sg4, tk4, tk5, hh5, o2, s0, s1, s2, s3, w3, w4, w0, g1, g2, b0, b1, b2, b3, b4, b5, b6, b7, b8, b9, ba, cl_get, cl_length, cl_put, evX_P, evX_N, push_cast, Nat.reduceAdd, Nat.reduceMul, Nat.reduceSub, Nat.reduceLT, Nat.reduceLeDiff, Nat.reduceEqDiff, Nat.reducePow, Int.reduceToNat, Int.reduceLT, Int.reduceLE, Int.reduceNeg, Int.reduceEq, Int.reducePow, reduceIte, reduceCtorEq, Int.reduceMul, Int.reduceAdd, Int.reduceSub, Int.reduceMod, Int.reduceDiv, Int.reduceTDiv, Int.reduceTMod, iter_s]
theorem work_has_c (k : Nat) (A : GAt S1 S2 K W h g C row gr) (I : CtlI K l.length W (tkF l) g) (Y : AX K W i g) (hK : K ≤ 8) (hF : l.length ≤ 8) (hi : i ≤ 10000) (hS : SlI l S1) (z1 : eqLV S1 S1 = true) (z2 : eqLV S2 S2 = true) (hC : C.length = g.ncl) {u t : Nat} (hu : u = t + 1) (hu2 : u ≤ W) (hW : W ≤ 5) {o : RO} (H : OpOk g i u o) (ho : (g.w u).o = some o) (hrd : ¬ (0 < (g.w u).left ∧ (g.w u).read = false)) (hl : 0 < (g.w u).left) (hlm : (g.w u).left ≤ 100) (hl1 : ¬ (g.w u).left = 1) (hw : (stepR ⟨g.M, g.R, o⟩ u).o.w ≠ 0) (hw1 : ¬ (stepR ⟨g.M, g.R, o⟩ u).o.w = 1) :
    ∃ h' row' gr', evF cm (k + 140) 11 [.p (gr .gm) 0 0, .i u] h 0 = some (.tup [], h') ∧ GAt S1 S2 K W h' (gwork1 l.length (tkF l) g u (g.w u) o) C row' gr' ∧ gr' .gm = gr .gm ∧ gr' .pp = gr .pp ∧ row' .mem = row .mem := by
  have u1 : 1 ≤ u := by omega
  have q1 := A.rgm
  obtain ⟨F, hFq, q2, f0, f1, f2, f3⟩ := A.view hu
  have r1 := rowOf_lt q1
  have r2 := rowOf_lt q2
  have AB : GAt S1 S2 K W h { g with w := upd g.w u { g.w u with o := some o } } C row gr := A.cast (by rw [upd_id _ _ _ (wk_eta ho)])
  obtain ⟨hB, hhB⟩ : ∃ hB, h = hB := ⟨_, rfl⟩
  obtain ⟨gB, hgB⟩ : ∃ gB, gr = gB := ⟨_, rfl⟩
  rw [hhB, hgB] at AB
  have c1 : gB .gm = gr .gm := by rw [hgB]
  have c8 : gB .pp = gr .pp := by rw [hgB]
  have c2 : gB .rg = gr .rg := by rw [hgB]
  have c3 : gB .ls = gr .ls := by rw [hgB]
  have c4 : gB .cl = gr .cl := by rw [hgB]
  have c6 : pubP g gB = pubP g gr := by rw [hgB]
  obtain ⟨h2, row2, e18, A2, hrm⟩ := wmid (k + 23) AB I Y hK hF hi u1 hu2 H
  have k1 := A2.rgm
  have sg := set_self (at_rowOf k1)
  obtain ⟨F2, hF2, k2, y0, y1, y2, y3⟩ := A2.view hu
  have hne := A.ne0
  have hne2 := A2.ne0
  simp only [opP, upd_same] at y0 y1 y2 y3
  have X6 : ∀ M R w nx nc dn wr, pubP ⟨M, R, g.pub, nx, w, nc, dn, wr⟩ gB = pubP g gB := fun _ _ _ _ _ _ _ => rfl
  rw [decide_eq_false (show ¬ (stepR ⟨g.M, g.R, o⟩ u).o.w = 0 by omega)] at e18
  simp only [Bool.not_false] at e18
  have k9 := A2.rop u1 hu2 (o := (stepR ⟨g.M, g.R, o⟩ u).o) (by dsimp only; rw [upd_same])
  have ew0 := fun k => why_ok k _ k9
  have tk : turnK h2 h2 (gr .gm) = true := turnK_of (c1 ▸ k1) (c1 ▸ k1) (gmC_eq z1 z2 _ _ _ _ (by unfold pubP; split <;> simp [eqLV, eqV]) _ _ _ _ _)
  have A3 := A2.left hu ((g.w u).left - 1)
  simp only [upd_same, upd_upd] at A3
  rw [hF2] at A3
  obtain ⟨h3, hh3⟩ : ∃ h3, h2.set (gB .ls) ⟨0, cl (W * 4) (upd F2 (t * 4 + 2) (.i ((g.w u).left - 1)))⟩ = h3 := ⟨_, rfl⟩
  rw [hh3] at A3
  have m1 := A3.rgm
  obtain ⟨F3, hF3, m2, v0, v1, v2, v3⟩ := A3.view hu
  simp only [opP, upd_same] at v0 v1 v2 v3
  have A4 := A3.read hu false
  simp only [upd_same, upd_upd] at A4
  rw [hF3] at A4
  obtain ⟨h4, hh4⟩ : ∃ h4, h3.set (gB .ls) ⟨0, cl (W * 4) (upd F3 (t * 4 + 3) (.b false))⟩ = h4 := ⟨_, rfl⟩
  rw [hh4] at A4
  have n1 := A4.rgm
  have sg4 := set_self (at_rowOf n1)
  obtain ⟨F4, hF4, n2, t0, t1, t2, t3⟩ := A4.view hu
  simp only [opP, upd_same] at t0 t1 t2 t3
  have n9 := A4.rop u1 hu2 (o := (stepR ⟨g.M, g.R, o⟩ u).o) (by dsimp only; rw [upd_same])
  have ew := fun k => why_ok k _ n9
  have tk4 : turnK h4 h4 (gr .gm) = true := turnK_of (c1 ▸ n1) (c1 ▸ n1) (gmC_eq z1 z2 _ _ _ _ (by unfold pubP; split <;> simp [eqLV, eqV]) _ _ _ _ _)
  have tk5 : turnK h4 h4 (gr .ls) = true := turnK_of (c3 ▸ n2) (c3 ▸ n2) (by rw [← hF4]; exact cl_eq _ _ _)
  have hne3 := A3.ne0
  have hne4 := A4.ne0
  have N6 := n1
  have A6 := A4.drop hu
  simp only [upd_same, upd_upd] at A6
  rw [hF4] at A6
  have hlb : (g.w u).left ≤ 100 := hlm
  have w3 : IntKind.i64.wrap ((g.w u).left - 1) = (g.w u).left - 1 := w64 _ (by omega) (by omega)
  have hl0 : ¬ (g.w u).left - 1 = 0 := by omega
  have gx := g1_bc (F := l.length) (Tk := tkF l) hw hl
  rw [if_neg hl1] at gx
  have AZ := (A6.same g.ncl (g.wrong || (decide ((stepR ⟨g.M, g.R, o⟩ u).o.w = 1) != decide ((g.w u).left = 1)))).cast gx.symm
  rw [c3] at AZ
  refine ⟨h4.set (gr .ls) ⟨0, cl (W * 4) (upd F4 (t * 4) (.v (.pointer none)))⟩, row2, gB, ?_, AZ, c1, c8, hrm⟩
  simp only [gmC, hrm, X6] at q1 k1 sg m1 n1 sg4
  subst hgB hhB
  have w0 : IntKind.i64.wrap ((u : Int) - 1) = (t : Int) := by rw [w64 _ (by omega) (by omega)]; omega
  have g1 : (t : Int) < (W : Int) := by omega
  have g2 : (0 : Int) ≤ (t : Int) := by omega
  have b0 : t * 4 < W * 4 := by omega
  have b1 : t * 4 + 1 < W * 4 := by omega
  have b2 : t * 4 + 2 < W * 4 := by omega
  have b3 : t * 4 + 3 < W * 4 := by omega
  have b4 : t * 4 + 1 ≤ W * 4 := by omega
  have b5 : t * 4 + 2 ≤ W * 4 := by omega
  have b6 : t * 4 + 3 ≤ W * 4 := by omega
  have b7 : t * 4 + 4 ≤ W * 4 := by omega
  have b8 : t * 4 + 1 + 1 ≤ W * 4 := by omega
  have b9 : t * 4 + 2 + 1 ≤ W * 4 := by omega
  have ba : t * 4 + 3 + 1 ≤ W * 4 := by omega
  simp only [opP, ho] at f0
  rw [evX_fun (m := c11) rfl _ _ _ _ A.ne0 rfl]
  have hr : (g.w u).read = true := by cases hh : (g.w u).read with | true => rfl | false => exact absurd ⟨hl, hh⟩ hrd
  rw [hr] at f3
  simp -implicitDefEqProofs (maxSteps := 1000000) only [c11, q1, k1, sg, e18, k2, y0, y1, y2, y3, q2, f0, f1, f2, f3, ew0, tk, ew, hh3, hh4, m1, m2, v0, v1, v2, v3, n1, n2, t0, t1, t2, t3, sg4, tk4, tk5, w3, hl0, hw1, w0, g1, g2, b0, b1, b2, b3, b4, b5, b6, b7, b8, b9, ba, hl, cl_get, cl_length, cl_put, evX_P, evX_N, push_cast, Nat.reduceAdd, Nat.reduceMul, Nat.reduceSub, Nat.reduceLT, Nat.reduceLeDiff, Nat.reduceEqDiff, Nat.reducePow, Int.reduceToNat, Int.reduceLT, Int.reduceLE, Int.reduceNeg, Int.reduceEq, Int.reducePow, reduceIte, reduceCtorEq, Int.reduceMul, Int.reduceAdd, Int.reduceSub, Int.reduceMod, Int.reduceDiv, Int.reduceTDiv, Int.reduceTMod, iter_s]
theorem work_has_d (k : Nat) (A : GAt S1 S2 K W h g C row gr) (I : CtlI K l.length W (tkF l) g) (Y : AX K W i g) (hK : K ≤ 8) (hF : l.length ≤ 8) (hi : i ≤ 10000) (hS : SlI l S1) (z1 : eqLV S1 S1 = true) (z2 : eqLV S2 S2 = true) (hC : C.length = g.ncl) {u t : Nat} (hu : u = t + 1) (hu2 : u ≤ W) (hW : W ≤ 5) {o : RO} (H : OpOk g i u o) (ho : (g.w u).o = some o) (hrd : ¬ (0 < (g.w u).left ∧ (g.w u).read = false)) (hl : ¬ 0 < (g.w u).left) (hw : (stepR ⟨g.M, g.R, o⟩ u).o.w = 1) (hwr : (gwork1 l.length (tkF l) g u (g.w u) o).wrong = false) :
    ∃ h' row' gr', evF cm (k + 140) 11 [.p (gr .gm) 0 0, .i u] h 0 = some (.tup [], h') ∧ GAt S1 S2 K W h' (gwork1 l.length (tkF l) g u (g.w u) o) (C ++ [(g.done : Int)]) row' gr' ∧ gr' .gm = gr .gm ∧ gr' .pp = gr .pp ∧ row' .mem = row .mem := by
  have u1 : 1 ≤ u := by omega
  have q1 := A.rgm
  obtain ⟨F, hFq, q2, f0, f1, f2, f3⟩ := A.view hu
  have r1 := rowOf_lt q1
  have r2 := rowOf_lt q2
  have AB : GAt S1 S2 K W h { g with w := upd g.w u { g.w u with o := some o } } C row gr := A.cast (by rw [upd_id _ _ _ (wk_eta ho)])
  obtain ⟨hB, hhB⟩ : ∃ hB, h = hB := ⟨_, rfl⟩
  obtain ⟨gB, hgB⟩ : ∃ gB, gr = gB := ⟨_, rfl⟩
  rw [hhB, hgB] at AB
  have c1 : gB .gm = gr .gm := by rw [hgB]
  have c8 : gB .pp = gr .pp := by rw [hgB]
  have c2 : gB .rg = gr .rg := by rw [hgB]
  have c3 : gB .ls = gr .ls := by rw [hgB]
  have c4 : gB .cl = gr .cl := by rw [hgB]
  have c6 : pubP g gB = pubP g gr := by rw [hgB]
  obtain ⟨h2, row2, e18, A2, hrm⟩ := wmid (k + 23) AB I Y hK hF hi u1 hu2 H
  have k1 := A2.rgm
  have sg := set_self (at_rowOf k1)
  obtain ⟨F2, hF2, k2, y0, y1, y2, y3⟩ := A2.view hu
  have hne := A.ne0
  have hne2 := A2.ne0
  simp only [opP, upd_same] at y0 y1 y2 y3
  have X6 : ∀ M R w nx nc dn wr, pubP ⟨M, R, g.pub, nx, w, nc, dn, wr⟩ gB = pubP g gB := fun _ _ _ _ _ _ _ => rfl
  rw [decide_eq_false (show ¬ (stepR ⟨g.M, g.R, o⟩ u).o.w = 0 by omega)] at e18
  simp only [Bool.not_false] at e18
  have k9 := A2.rop u1 hu2 (o := (stepR ⟨g.M, g.R, o⟩ u).o) (by dsimp only; rw [upd_same])
  have ew0 := fun k => why_ok k _ k9
  have tk : turnK h2 h2 (gr .gm) = true := turnK_of (c1 ▸ k1) (c1 ▸ k1) (gmC_eq z1 z2 _ _ _ _ (by unfold pubP; split <;> simp [eqLV, eqV]) _ _ _ _ _)
  obtain ⟨⟨j1, j2, j3⟩, gx⟩ := g1_d hw hl hwr
  have hb := I.b
  have ef := fun k => frame_ok k _ k9
  rw [j2] at ef j3 gx
  have hdl : g.done < l.length := by omega
  have hCd : C.length = g.done := by omega
  rw [Int.toNat_natCast] at gx
  have hdi : ((g.done : Nat) : Int) = g.done := rfl
  have A3 := A2.frame hu (g.done : Int)
  simp only [upd_same, upd_upd] at A3
  rw [hF2] at A3
  obtain ⟨h3, hh3⟩ : ∃ h3, h2.set (gB .ls) ⟨0, cl (W * 4) (upd F2 (t * 4 + 1) (.i g.done))⟩ = h3 := ⟨_, rfl⟩
  rw [hh3] at A3
  have m1 := A3.rgm
  have sg3 := set_self (at_rowOf m1)
  obtain ⟨F3, hF3, m2, v0, v1, v2, v3⟩ := A3.view hu
  simp only [opP, upd_same] at v0 v1 v2 v3
  have A4 := A3.left hu (tkF l g.done)
  simp only [upd_same, upd_upd] at A4
  rw [hF3] at A4
  obtain ⟨h4, hh4⟩ : ∃ h4, h3.set (gB .ls) ⟨0, cl (W * 4) (upd F3 (t * 4 + 2) (.i (tkF l g.done)))⟩ = h4 := ⟨_, rfl⟩
  rw [hh4] at A4
  have n1 := A4.rgm
  obtain ⟨F4, hF4, n2, t0, t1, t2, t3⟩ := A4.view hu
  simp only [opP, upd_same] at t0 t1 t2 t3
  obtain ⟨ha, ra, ap, pa, A5⟩ := A4.push (g.done : Int) (by omega)
  obtain ⟨g5, hg5⟩ : ∃ g5, setC gB .cl ra = g5 := ⟨_, rfl⟩
  have d1 : g5 .gm = gB .gm := by rw [← hg5]; exact setC_ne _ _ (by simp)
  have d2 : g5 .rg = gB .rg := by rw [← hg5]; exact setC_ne _ _ (by simp)
  have d3 : g5 .ls = gB .ls := by rw [← hg5]; exact setC_ne _ _ (by simp)
  have d8 : g5 .pp = gB .pp := by rw [← hg5]; exact setC_ne _ _ (by simp)
  have d5 : g5 (.op u) = gB (.op u) := by rw [← hg5]; exact setC_ne _ _ (by simp)
  rw [hg5] at A5
  obtain ⟨h5, hh5⟩ : ∃ h5, ha.set (gB .gm) ⟨0, gmC S1 S2 K W (row2 .mem) (gB .rg) (pubP g gB) (gB .ls) g.next (outG 1 ra (C.length + 1)) g.done⟩ = h5 := ⟨_, rfl⟩
  have hh5' : ha.set (gB .gm) ⟨0, gmC S1 S2 K W (row2 .mem) (gB .rg) (pubP { g with M := (stepR ⟨g.M, g.R, o⟩ u).M, R := (stepR ⟨g.M, g.R, o⟩ u).R, w := upd g.w u ⟨some (stepR ⟨g.M, g.R, o⟩ u).o, g.done, tkF l g.done, (g.w u).read⟩ } gB) (gB .ls) g.next (outG 1 ra (C.length + 1)) g.done⟩ = h5 := hh5
  rw [hh5'] at A5
  obtain ⟨F5, hF5, o2, s0, s1, s2, s3⟩ := A5.view hu
  simp only [opP, upd_same] at s0 s1 s2 s3
  have A6 := A5.drop hu
  simp only [upd_same, upd_upd] at A6
  rw [hF5, d3, c3] at A6
  rw [d3] at o2
  rw [d5] at s0
  rw [n1] at pa
  have hne3 := A3.ne0
  have hne4 := A4.ne0
  have hne5 := A5.ne0
  have i0 : (0 : Int) ≤ (g.done : Int) := by omega
  have i1 : (g.done : Int) < (l.length : Int) := by omega
  have hx := hS.ix g.done (by omega) i1
  rw [Int.toNat_natCast] at hx
  have hrd1 := rd_ints l g.done (by omega)
  have hrd2 := rd_ints' l g.done (by omega)
  have htk : l.getD g.done 0 = tkF l g.done := rfl
  rw [htk] at hrd1 hrd2
  have ol := outG_len (gr .cl) g.done
  have oc := fun e r i => outG_cells e r i
  have oa := fun e r i => outG_atom e r i
  have ok1 : ∀ x a b p q, okRM1 [1, 2, 3, 4, 5, 6, 7, 8, 9] x a b [(4, [p]), (5, []), (6, []), (7, []), (8, [q]), (9, [])] = true := fun x a b p q => by cases x <;> rfl
  have tk4 : turnK h4 h4 (gr .gm) = true := turnK_of (c1 ▸ n1) (c1 ▸ n1) (gmC_eq z1 z2 _ _ _ _ (by unfold pubP; split <;> simp [eqLV, eqV]) _ _ _ _ _)
  have tk5 : turnK h4 h4 (gr .ls) = true := turnK_of (c3 ▸ n2) (c3 ▸ n2) (by rw [← hF4]; exact cl_eq _ _ _)
  rw [hCd] at q1 k1 sg m1 sg3 n1 ap pa hh5
  have AZ := (A6.same (g.ncl + 1) false).cast gx.symm
  refine ⟨h5.set (gr .ls) ⟨0, cl (W * 4) (upd F5 (t * 4) (.v (.pointer none)))⟩, row2, g5, ?_, AZ, d1.trans c1, d8.trans c8, hrm⟩
  simp only [gmC, hrm, X6] at q1 k1 sg m1 sg3 n1 hh5 pa
  subst hgB hhB
  rw [hw] at ew0
  have w0 : IntKind.i64.wrap ((u : Int) - 1) = (t : Int) := by rw [w64 _ (by omega) (by omega)]; omega
  have g1 : (t : Int) < (W : Int) := by omega
  have g2 : (0 : Int) ≤ (t : Int) := by omega
  have b0 : t * 4 < W * 4 := by omega
  have b1 : t * 4 + 1 < W * 4 := by omega
  have b2 : t * 4 + 2 < W * 4 := by omega
  have b3 : t * 4 + 3 < W * 4 := by omega
  have b4 : t * 4 + 1 ≤ W * 4 := by omega
  have b5 : t * 4 + 2 ≤ W * 4 := by omega
  have b6 : t * 4 + 3 ≤ W * 4 := by omega
  have b7 : t * 4 + 4 ≤ W * 4 := by omega
  have b8 : t * 4 + 1 + 1 ≤ W * 4 := by omega
  have b9 : t * 4 + 2 + 1 ≤ W * 4 := by omega
  have ba : t * 4 + 3 + 1 ≤ W * 4 := by omega
  simp only [opP, ho] at f0
  rw [evX_fun (m := c11) rfl _ _ _ _ A.ne0 rfl]
  simp -implicitDefEqProofs (maxSteps := 1000000) only [c11, q1, k1, sg, e18, k2, y0, y1, y2, y3, q2, f0, f1, f2, f3, ew0, tk, ef, hw, j3, hh3, hh4, m1, m2, sg3, v0, v1, v2, v3, n1, n2, t0, t1, t2, t3, ap, pa, hh5, o2, s0, s1, s2, s3, i0, i1, hx, hrd1, hrd2, hS.len, ol, oc, oa, ok1, tk4, tk5, eq_self, w0, g1, g2, b0, b1, b2, b3, b4, b5, b6, b7, b8, b9, ba, hl, cl_get, cl_length, cl_put, evX_P, evX_N, push_cast, Nat.reduceAdd, Nat.reduceMul, Nat.reduceSub, Nat.reduceLT, Nat.reduceLeDiff, Nat.reduceEqDiff, Nat.reducePow, Int.reduceToNat, Int.reduceLT, Int.reduceLE, Int.reduceNeg, Int.reduceEq, Int.reducePow, reduceIte, reduceCtorEq, Int.reduceMul, Int.reduceAdd, Int.reduceSub, Int.reduceMod, Int.reduceDiv, Int.reduceTDiv, Int.reduceTMod, iter_s]
theorem work_has_e (k : Nat) (A : GAt S1 S2 K W h g C row gr) (I : CtlI K l.length W (tkF l) g) (Y : AX K W i g) (hK : K ≤ 8) (hF : l.length ≤ 8) (hi : i ≤ 10000) (hS : SlI l S1) (z1 : eqLV S1 S1 = true) (z2 : eqLV S2 S2 = true) (hC : C.length = g.ncl) {u t : Nat} (hu : u = t + 1) (hu2 : u ≤ W) (hW : W ≤ 5) {o : RO} (H : OpOk g i u o) (ho : (g.w u).o = some o) (hrd : ¬ (0 < (g.w u).left ∧ (g.w u).read = false)) (hl : ¬ 0 < (g.w u).left) (hw : (stepR ⟨g.M, g.R, o⟩ u).o.w ≠ 0) (hw1 : ¬ (stepR ⟨g.M, g.R, o⟩ u).o.w = 1) :
    ∃ h' row' gr', evF cm (k + 140) 11 [.p (gr .gm) 0 0, .i u] h 0 = some (.tup [], h') ∧ GAt S1 S2 K W h' (gwork1 l.length (tkF l) g u (g.w u) o) C row' gr' ∧ gr' .gm = gr .gm ∧ gr' .pp = gr .pp ∧ row' .mem = row .mem := by
  have u1 : 1 ≤ u := by omega
  have q1 := A.rgm
  obtain ⟨F, hFq, q2, f0, f1, f2, f3⟩ := A.view hu
  have r1 := rowOf_lt q1
  have r2 := rowOf_lt q2
  have AB : GAt S1 S2 K W h { g with w := upd g.w u { g.w u with o := some o } } C row gr := A.cast (by rw [upd_id _ _ _ (wk_eta ho)])
  obtain ⟨hB, hhB⟩ : ∃ hB, h = hB := ⟨_, rfl⟩
  obtain ⟨gB, hgB⟩ : ∃ gB, gr = gB := ⟨_, rfl⟩
  rw [hhB, hgB] at AB
  have c1 : gB .gm = gr .gm := by rw [hgB]
  have c8 : gB .pp = gr .pp := by rw [hgB]
  have c2 : gB .rg = gr .rg := by rw [hgB]
  have c3 : gB .ls = gr .ls := by rw [hgB]
  have c4 : gB .cl = gr .cl := by rw [hgB]
  have c6 : pubP g gB = pubP g gr := by rw [hgB]
  obtain ⟨h2, row2, e18, A2, hrm⟩ := wmid (k + 23) AB I Y hK hF hi u1 hu2 H
  have k1 := A2.rgm
  have sg := set_self (at_rowOf k1)
  obtain ⟨F2, hF2, k2, y0, y1, y2, y3⟩ := A2.view hu
  have hne := A.ne0
  have hne2 := A2.ne0
  simp only [opP, upd_same] at y0 y1 y2 y3
  have X6 : ∀ M R w nx nc dn wr, pubP ⟨M, R, g.pub, nx, w, nc, dn, wr⟩ gB = pubP g gB := fun _ _ _ _ _ _ _ => rfl
  rw [decide_eq_false (show ¬ (stepR ⟨g.M, g.R, o⟩ u).o.w = 0 by omega)] at e18
  simp only [Bool.not_false] at e18
  have k9 := A2.rop u1 hu2 (o := (stepR ⟨g.M, g.R, o⟩ u).o) (by dsimp only; rw [upd_same])
  have ew0 := fun k => why_ok k _ k9
  have tk : turnK h2 h2 (gr .gm) = true := turnK_of (c1 ▸ k1) (c1 ▸ k1) (gmC_eq z1 z2 _ _ _ _ (by unfold pubP; split <;> simp [eqLV, eqV]) _ _ _ _ _)
  have A6 := A2.drop hu
  simp only [upd_same, upd_upd] at A6
  rw [hF2] at A6
  have AZ := A6.cast (g1_e (F := l.length) (Tk := tkF l) hw hw1 hl).symm
  rw [c3] at AZ
  refine ⟨h2.set (gr .ls) ⟨0, cl (W * 4) (upd F2 (t * 4) (.v (.pointer none)))⟩, row2, gB, ?_, AZ, c1, c8, hrm⟩
  simp only [gmC, hrm, X6] at q1 k1 sg
  subst hgB hhB
  have w0 : IntKind.i64.wrap ((u : Int) - 1) = (t : Int) := by rw [w64 _ (by omega) (by omega)]; omega
  have g1 : (t : Int) < (W : Int) := by omega
  have g2 : (0 : Int) ≤ (t : Int) := by omega
  have b0 : t * 4 < W * 4 := by omega
  have b1 : t * 4 + 1 < W * 4 := by omega
  have b2 : t * 4 + 2 < W * 4 := by omega
  have b3 : t * 4 + 3 < W * 4 := by omega
  have b4 : t * 4 + 1 ≤ W * 4 := by omega
  have b5 : t * 4 + 2 ≤ W * 4 := by omega
  have b6 : t * 4 + 3 ≤ W * 4 := by omega
  have b7 : t * 4 + 4 ≤ W * 4 := by omega
  have b8 : t * 4 + 1 + 1 ≤ W * 4 := by omega
  have b9 : t * 4 + 2 + 1 ≤ W * 4 := by omega
  have ba : t * 4 + 3 + 1 ≤ W * 4 := by omega
  simp only [opP, ho] at f0
  rw [evX_fun (m := c11) rfl _ _ _ _ A.ne0 rfl]
  simp -implicitDefEqProofs (maxSteps := 1000000) only [c11, q1, k1, sg, e18, k2, y0, y1, y2, y3, q2, f0, f1, f2, f3, ew0, tk, hw1, w0, g1, g2, b0, b1, b2, b3, b4, b5, b6, b7, b8, b9, ba, hl, cl_get, cl_length, cl_put, evX_P, evX_N, push_cast, Nat.reduceAdd, Nat.reduceMul, Nat.reduceSub, Nat.reduceLT, Nat.reduceLeDiff, Nat.reduceEqDiff, Nat.reducePow, Int.reduceToNat, Int.reduceLT, Int.reduceLE, Int.reduceNeg, Int.reduceEq, Int.reducePow, reduceIte, reduceCtorEq, Int.reduceMul, Int.reduceAdd, Int.reduceSub, Int.reduceMod, Int.reduceDiv, Int.reduceTDiv, Int.reduceTMod, iter_s]
theorem work_clm_a (k : Nat) (A : GAt S1 S2 K W h g C row gr) (I : CtlI K l.length W (tkF l) g) (Y : AX K W i g) (hK : K ≤ 8) (hF : l.length ≤ 8) (hi : i ≤ 10000) (hS : SlI l S1) (z1 : eqLV S1 S1 = true) (z2 : eqLV S2 S2 = true) (hC : C.length = g.ncl) {u t : Nat} (hu : u = t + 1) (hu2 : u ≤ W) (hW : W ≤ 5) (H : OpOk g i u (RO.new .claim 0 0)) (ho : (g.w u).o = none) (hl : ¬ 0 < (g.w u).left) (hw : (stepR ⟨g.M, g.R, (RO.new .claim 0 0)⟩ u).o.w = 0) :
    ∃ h' row' gr', evF cm (k + 140) 11 [.p (gr .gm) 0 0, .i u] h 0 = some (.tup [], h') ∧ GAt S1 S2 K W h' (gwork1 l.length (tkF l) g u (g.w u) (RO.new .claim 0 0)) C row' gr' ∧ gr' .gm = gr .gm ∧ gr' .pp = gr .pp ∧ row' .mem = row .mem := by
  have u1 : 1 ≤ u := by omega
  have q1 := A.rgm
  obtain ⟨F, hFq, q2, f0, f1, f2, f3⟩ := A.view hu
  have r1 := rowOf_lt q1
  have r2 := rowOf_lt q2
  have AB := A.fresh hu hu2 (RO.new .claim 0 0) []
  rw [hFq] at AB
  rw [List.append_nil, List.length_nil, Nat.add_zero] at AB
  obtain ⟨hB, hhB⟩ : ∃ hB, h.set (gr .ls) ⟨0, cl (W * 4) (upd F (t * 4) (.p h.length 0 0))⟩ ++ [(⟨0, (RO.new .claim 0 0).cells (gr .rg)⟩ : Row)] = hB := ⟨_, rfl⟩
  obtain ⟨gB, hgB⟩ : ∃ gB, setC gr (.op u) h.length = gB := ⟨_, rfl⟩
  have c1 : gB .gm = gr .gm := by rw [← hgB]; exact setC_ne _ _ (by simp)
  have c2 : gB .rg = gr .rg := by rw [← hgB]; exact setC_ne _ _ (by simp)
  have c3 : gB .ls = gr .ls := by rw [← hgB]; exact setC_ne _ _ (by simp)
  have c4 : gB .cl = gr .cl := by rw [← hgB]; exact setC_ne _ _ (by simp)
  have c8 : gB .pp = gr .pp := by rw [← hgB]; exact setC_ne _ _ (by simp)
  have c5 : gB (.op u) = h.length := by rw [← hgB]; exact setC_eq _ _ _
  have c6 : pubP g gB = pubP g gr := by unfold pubP; rw [← hgB, setC_ne _ _ (show GR.pb ≠ GR.op u by simp)]
  rw [hhB, hgB] at AB
  have p1 := AB.rgm
  obtain ⟨FB, hFB, p2, x0, x1, x2, x3⟩ := AB.view hu
  have hneB := AB.ne0
  simp only [opP, upd_same] at x0 x1 x2 x3
  obtain ⟨h2, row2, e18, A2, hrm⟩ := wmid (k + 23) AB I Y hK hF hi u1 hu2 H
  have k1 := A2.rgm
  have sg := set_self (at_rowOf k1)
  obtain ⟨F2, hF2, k2, y0, y1, y2, y3⟩ := A2.view hu
  have hne := A.ne0
  have hne2 := A2.ne0
  simp only [opP, upd_same] at y0 y1 y2 y3
  have X6 : ∀ M R w nx nc dn wr, pubP ⟨M, R, g.pub, nx, w, nc, dn, wr⟩ gB = pubP g gB := fun _ _ _ _ _ _ _ => rfl
  rw [hw] at e18
  simp only [decide_true, Bool.not_true] at e18
  have AZ := A2.cast (g1_a (F := l.length) (Tk := tkF l) hw).symm
  refine ⟨h2, row2, gB, ?_, AZ, c1, c8, hrm⟩
  simp only [gmC] at q1
  simp only [gmC, hrm, c1, c2, c3, c4, c5, c6, X6] at p1 p2 x0 k1 sg k2 y0 e18
  have w0 : IntKind.i64.wrap ((u : Int) - 1) = (t : Int) := by rw [w64 _ (by omega) (by omega)]; omega
  have g1 : (t : Int) < (W : Int) := by omega
  have g2 : (0 : Int) ≤ (t : Int) := by omega
  have b0 : t * 4 < W * 4 := by omega
  have b1 : t * 4 + 1 < W * 4 := by omega
  have b2 : t * 4 + 2 < W * 4 := by omega
  have b3 : t * 4 + 3 < W * 4 := by omega
  have b4 : t * 4 + 1 ≤ W * 4 := by omega
  have b5 : t * 4 + 2 ≤ W * 4 := by omega
  have b6 : t * 4 + 3 ≤ W * 4 := by omega
  have b7 : t * 4 + 4 ≤ W * 4 := by omega
  have b8 : t * 4 + 1 + 1 ≤ W * 4 := by omega
  have b9 : t * 4 + 2 + 1 ≤ W * 4 := by omega
  have ba : t * 4 + 3 + 1 ≤ W * 4 := by omega
  have e19 := fun k => claim_mk k A.ne0 (gr .rg)
  have z2a : ∀ x y, (h ++ x).set (gr .ls) y = h.set (gr .ls) y ++ x := fun x y => List.set_append_left _ _ r2
  have z3a : ∀ x cs, rowOf (h.set (gr .ls) ⟨0, cs⟩ ++ x) (gr .ls) 0 = some cs := fun x cs => by rw [rowOf_app_lt (by simpa using r2)]; exact rowOf_set_eq r2
  have z4a : ∀ x, rowOf (h ++ x) (gr .ls) 0 = some (cl (W * 4) F) := fun x => by rw [rowOf_app_lt r2]; exact q2
  have z5a : ∀ x, rowOf (h ++ x) (gr .gm) 0 = rowOf h (gr .gm) 0 := fun x => rowOf_app_lt r1
  have u8 : upd F (t * 4) (.p h.length 0 0) (t * 4 + 2) = .i (g.w u).left := by rw [upd_ne _ _ (by omega)]; exact f2
  generalize (RO.new .claim 0 0).cells (gr .rg) = oc at *
  simp only [opP, ho] at f0
  rw [evX_fun (m := c11) rfl _ _ _ _ A.ne0 rfl]
  simp -implicitDefEqProofs (maxSteps := 1000000) only [c11, q1, k1, sg, e18, k2, y0, y1, y2, y3, q2, f0, f1, f2, f3, p1, p2, x0, x1, x2, x3, w0, g1, g2, b0, b1, b2, b3, b4, b5, b6, b7, b8, b9, ba, e19, z2a, z3a, z4a, z5a, u8, hl, cl_get, cl_length, cl_put, evX_P, evX_N, push_cast, Nat.reduceAdd, Nat.reduceMul, Nat.reduceSub, Nat.reduceLT, Nat.reduceLeDiff, Nat.reduceEqDiff, Nat.reducePow, Int.reduceToNat, Int.reduceLT, Int.reduceLE, Int.reduceNeg, Int.reduceEq, Int.reducePow, reduceIte, reduceCtorEq, Int.reduceMul, Int.reduceAdd, Int.reduceSub, Int.reduceMod, Int.reduceDiv, Int.reduceTDiv, Int.reduceTMod, iter_s, hhB]
theorem work_fin_a (k : Nat) (A : GAt S1 S2 K W h g C row gr) (I : CtlI K l.length W (tkF l) g) (Y : AX K W i g) (hK : K ≤ 8) (hF : l.length ≤ 8) (hi : i ≤ 10000) (hS : SlI l S1) (z1 : eqLV S1 S1 = true) (z2 : eqLV S2 S2 = true) (hC : C.length = g.ncl) {u t : Nat} (hu : u = t + 1) (hu2 : u ≤ W) (hW : W ≤ 5) (H : OpOk g i u (RO.new .finish (g.w u).frame 0)) (ho : (g.w u).o = none) (hl : 0 < (g.w u).left) (hr : (g.w u).read = true) (hw : (stepR ⟨g.M, g.R, (RO.new .finish (g.w u).frame 0)⟩ u).o.w = 0) :
    ∃ h' row' gr', evF cm (k + 140) 11 [.p (gr .gm) 0 0, .i u] h 0 = some (.tup [], h') ∧ GAt S1 S2 K W h' (gwork1 l.length (tkF l) g u (g.w u) (RO.new .finish (g.w u).frame 0)) C row' gr' ∧ gr' .gm = gr .gm ∧ gr' .pp = gr .pp ∧ row' .mem = row .mem := by
  have u1 : 1 ≤ u := by omega
  have q1 := A.rgm
  obtain ⟨F, hFq, q2, f0, f1, f2, f3⟩ := A.view hu
  have r1 := rowOf_lt q1
  have r2 := rowOf_lt q2
  have AB := A.fresh hu hu2 (RO.new .finish (g.w u).frame 0) [(⟨0, (RO.new .claim 0 0).cells (gr .rg)⟩ : Row)]
  rw [hFq] at AB
  simp only [List.length_singleton] at AB
  obtain ⟨hB, hhB⟩ : ∃ hB, h.set (gr .ls) ⟨0, cl (W * 4) (upd F (t * 4) (.p (h.length + 1) 0 0))⟩ ++ [(⟨0, (RO.new .claim 0 0).cells (gr .rg)⟩ : Row)] ++ [(⟨0, (RO.new .finish (g.w u).frame 0).cells (gr .rg)⟩ : Row)] = hB := ⟨_, rfl⟩
  obtain ⟨gB, hgB⟩ : ∃ gB, setC gr (.op u) (h.length + 1) = gB := ⟨_, rfl⟩
  have c1 : gB .gm = gr .gm := by rw [← hgB]; exact setC_ne _ _ (by simp)
  have c2 : gB .rg = gr .rg := by rw [← hgB]; exact setC_ne _ _ (by simp)
  have c3 : gB .ls = gr .ls := by rw [← hgB]; exact setC_ne _ _ (by simp)
  have c4 : gB .cl = gr .cl := by rw [← hgB]; exact setC_ne _ _ (by simp)
  have c8 : gB .pp = gr .pp := by rw [← hgB]; exact setC_ne _ _ (by simp)
  have c5 : gB (.op u) = (h.length + 1) := by rw [← hgB]; exact setC_eq _ _ _
  have c6 : pubP g gB = pubP g gr := by unfold pubP; rw [← hgB, setC_ne _ _ (show GR.pb ≠ GR.op u by simp)]
  rw [hhB, hgB] at AB
  have p1 := AB.rgm
  obtain ⟨FB, hFB, p2, x0, x1, x2, x3⟩ := AB.view hu
  have hneB := AB.ne0
  simp only [opP, upd_same] at x0 x1 x2 x3
  obtain ⟨h2, row2, e18, A2, hrm⟩ := wmid (k + 23) AB I Y hK hF hi u1 hu2 H
  have k1 := A2.rgm
  have sg := set_self (at_rowOf k1)
  obtain ⟨F2, hF2, k2, y0, y1, y2, y3⟩ := A2.view hu
  have hne := A.ne0
  have hne2 := A2.ne0
  simp only [opP, upd_same] at y0 y1 y2 y3
  have X6 : ∀ M R w nx nc dn wr, pubP ⟨M, R, g.pub, nx, w, nc, dn, wr⟩ gB = pubP g gB := fun _ _ _ _ _ _ _ => rfl
  rw [hw] at e18
  simp only [decide_true, Bool.not_true] at e18
  have AZ := A2.cast (g1_a (F := l.length) (Tk := tkF l) hw).symm
  refine ⟨h2, row2, gB, ?_, AZ, c1, c8, hrm⟩
  simp only [gmC] at q1
  simp only [gmC, hrm, c1, c2, c3, c4, c5, c6, X6] at p1 p2 x0 k1 sg k2 y0 e18
  have w0 : IntKind.i64.wrap ((u : Int) - 1) = (t : Int) := by rw [w64 _ (by omega) (by omega)]; omega
  have g1 : (t : Int) < (W : Int) := by omega
  have g2 : (0 : Int) ≤ (t : Int) := by omega
  have b0 : t * 4 < W * 4 := by omega
  have b1 : t * 4 + 1 < W * 4 := by omega
  have b2 : t * 4 + 2 < W * 4 := by omega
  have b3 : t * 4 + 3 < W * 4 := by omega
  have b4 : t * 4 + 1 ≤ W * 4 := by omega
  have b5 : t * 4 + 2 ≤ W * 4 := by omega
  have b6 : t * 4 + 3 ≤ W * 4 := by omega
  have b7 : t * 4 + 4 ≤ W * 4 := by omega
  have b8 : t * 4 + 1 + 1 ≤ W * 4 := by omega
  have b9 : t * 4 + 2 + 1 ≤ W * 4 := by omega
  have ba : t * 4 + 3 + 1 ≤ W * 4 := by omega
  have e19 := fun k => claim_mk k A.ne0 (gr .rg)
  have z2a : ∀ x y, (h ++ x).set (gr .ls) y = h.set (gr .ls) y ++ x := fun x y => List.set_append_left _ _ r2
  have z3a : ∀ x cs, rowOf (h.set (gr .ls) ⟨0, cs⟩ ++ x) (gr .ls) 0 = some cs := fun x cs => by rw [rowOf_app_lt (by simpa using r2)]; exact rowOf_set_eq r2
  have z4a : ∀ x, rowOf (h ++ x) (gr .ls) 0 = some (cl (W * 4) F) := fun x => by rw [rowOf_app_lt r2]; exact q2
  have z5a : ∀ x, rowOf (h ++ x) (gr .gm) 0 = rowOf h (gr .gm) 0 := fun x => rowOf_app_lt r1
  have z6a : ∀ x y z, (h.set (gr .ls) y ++ x).set (gr .ls) z = h.set (gr .ls) z ++ x := fun x y z => by rw [List.set_append_left _ _ (by simpa using r2), List.set_set]
  have z8a : ∀ x y cs, rowOf (h.set (gr .ls) ⟨0, cs⟩ ++ x ++ y) (gr .ls) 0 = some cs := fun x y cs => by rw [List.append_assoc]; exact z3a _ _
  have z9a : ∀ x x2 y z, (h.set (gr .ls) y ++ x ++ x2).set (gr .ls) z = h.set (gr .ls) z ++ x ++ x2 := fun x x2 y z => by rw [List.append_assoc, z6a, List.append_assoc]
  have nls : gr .ls ≠ gr .gm := A.ne (τ := .ls) (τ' := .gm) trivial trivial (by simp)
  have z7a : ∀ x y, rowOf (h.set (gr .ls) y ++ x) (gr .gm) 0 = rowOf h (gr .gm) 0 := fun x y => by rw [rowOf_app_lt (by simpa using r1), rowOf_set_ne nls]
  have hn7 : ∀ x y, (h.set (gr .ls) y ++ [x]).isEmpty = false := fun x y => by cases h.set (gr .ls) y <;> rfl
  have e21 := fun k y x => finish_mk k (hn7 x y) (gr .rg) (g.w u).frame
  have ll7 : ∀ (x y : Row), (h.set (gr .ls) y ++ [x]).length = h.length + 1 := fun x y => by rw [List.length_append, List.length_set]; rfl
  have u7 : upd (upd F (t * 4) (.p h.length 0 0)) (t * 4) (.p (h.length + 1) 0 0) = upd F (t * 4) (.p (h.length + 1) 0 0) := upd_upd _ _ _ _
  have u8 : upd F (t * 4) (.p h.length 0 0) (t * 4 + 2) = .i (g.w u).left := by rw [upd_ne _ _ (by omega)]; exact f2
  have u9 : upd F (t * 4) (.p h.length 0 0) (t * 4 + 1) = .i (g.w u).frame := by rw [upd_ne _ _ (by omega)]; exact f1
  have tkx : ∀ (x y : Row) , turnK (h.set (gr .ls) y ++ [x]) (h.set (gr .ls) y ++ [x]) (gr .gm) = true := fun x y => by
    have := (rowOf_app_lt (t := [x]) (k := gr .gm) (v := 0) (h := h.set (gr .ls) y) (by simpa using r1)).trans ((rowOf_set_ne nls).trans q1)
    exact turnK_of this this (gmC_eq z1 z2 _ _ _ _ (by unfold pubP; split <;> simp [eqLV, eqV]) _ _ _ _ _)
  generalize (RO.new .finish (g.w u).frame 0).cells (gr .rg) = od at *
  generalize (RO.new .claim 0 0).cells (gr .rg) = oc at *
  simp only [opP, ho] at f0
  rw [hr] at f3
  rw [evX_fun (m := c11) rfl _ _ _ _ A.ne0 rfl]
  simp -implicitDefEqProofs (maxSteps := 1000000) only [c11, q1, k1, sg, e18, k2, y0, y1, y2, y3, q2, f0, f1, f2, f3, p1, p2, x0, x1, x2, x3, w0, g1, g2, b0, b1, b2, b3, b4, b5, b6, b7, b8, b9, ba, e19, z2a, z3a, z4a, z5a, z6a, z8a, z9a, z7a, e21, ll7, u7, u8, u9, tkx, hl, cl_get, cl_length, cl_put, evX_P, evX_N, push_cast, Nat.reduceAdd, Nat.reduceMul, Nat.reduceSub, Nat.reduceLT, Nat.reduceLeDiff, Nat.reduceEqDiff, Nat.reducePow, Int.reduceToNat, Int.reduceLT, Int.reduceLE, Int.reduceNeg, Int.reduceEq, Int.reducePow, reduceIte, reduceCtorEq, Int.reduceMul, Int.reduceAdd, Int.reduceSub, Int.reduceMod, Int.reduceDiv, Int.reduceTDiv, Int.reduceTMod, iter_s, hhB]
theorem work_fin_c (k : Nat) (A : GAt S1 S2 K W h g C row gr) (I : CtlI K l.length W (tkF l) g) (Y : AX K W i g) (hK : K ≤ 8) (hF : l.length ≤ 8) (hi : i ≤ 10000) (hS : SlI l S1) (z1 : eqLV S1 S1 = true) (z2 : eqLV S2 S2 = true) (hC : C.length = g.ncl) {u t : Nat} (hu : u = t + 1) (hu2 : u ≤ W) (hW : W ≤ 5) (H : OpOk g i u (RO.new .finish (g.w u).frame 0)) (ho : (g.w u).o = none) (hl : 0 < (g.w u).left) (hr : (g.w u).read = true)  (hlm : (g.w u).left ≤ 100) (hl1 : ¬ (g.w u).left = 1) (hw : (stepR ⟨g.M, g.R, (RO.new .finish (g.w u).frame 0)⟩ u).o.w ≠ 0) (hw1 : ¬ (stepR ⟨g.M, g.R, (RO.new .finish (g.w u).frame 0)⟩ u).o.w = 1) :
    ∃ h' row' gr', evF cm (k + 140) 11 [.p (gr .gm) 0 0, .i u] h 0 = some (.tup [], h') ∧ GAt S1 S2 K W h' (gwork1 l.length (tkF l) g u (g.w u) (RO.new .finish (g.w u).frame 0)) C row' gr' ∧ gr' .gm = gr .gm ∧ gr' .pp = gr .pp ∧ row' .mem = row .mem := by
  have u1 : 1 ≤ u := by omega
  have q1 := A.rgm
  obtain ⟨F, hFq, q2, f0, f1, f2, f3⟩ := A.view hu
  have r1 := rowOf_lt q1
  have r2 := rowOf_lt q2
  have AB := A.fresh hu hu2 (RO.new .finish (g.w u).frame 0) [(⟨0, (RO.new .claim 0 0).cells (gr .rg)⟩ : Row)]
  rw [hFq] at AB
  simp only [List.length_singleton] at AB
  obtain ⟨hB, hhB⟩ : ∃ hB, h.set (gr .ls) ⟨0, cl (W * 4) (upd F (t * 4) (.p (h.length + 1) 0 0))⟩ ++ [(⟨0, (RO.new .claim 0 0).cells (gr .rg)⟩ : Row)] ++ [(⟨0, (RO.new .finish (g.w u).frame 0).cells (gr .rg)⟩ : Row)] = hB := ⟨_, rfl⟩
  obtain ⟨gB, hgB⟩ : ∃ gB, setC gr (.op u) (h.length + 1) = gB := ⟨_, rfl⟩
  have c1 : gB .gm = gr .gm := by rw [← hgB]; exact setC_ne _ _ (by simp)
  have c2 : gB .rg = gr .rg := by rw [← hgB]; exact setC_ne _ _ (by simp)
  have c3 : gB .ls = gr .ls := by rw [← hgB]; exact setC_ne _ _ (by simp)
  have c4 : gB .cl = gr .cl := by rw [← hgB]; exact setC_ne _ _ (by simp)
  have c8 : gB .pp = gr .pp := by rw [← hgB]; exact setC_ne _ _ (by simp)
  have c5 : gB (.op u) = (h.length + 1) := by rw [← hgB]; exact setC_eq _ _ _
  have c6 : pubP g gB = pubP g gr := by unfold pubP; rw [← hgB, setC_ne _ _ (show GR.pb ≠ GR.op u by simp)]
  rw [hhB, hgB] at AB
  have p1 := AB.rgm
  obtain ⟨FB, hFB, p2, x0, x1, x2, x3⟩ := AB.view hu
  have hneB := AB.ne0
  simp only [opP, upd_same] at x0 x1 x2 x3
  obtain ⟨h2, row2, e18, A2, hrm⟩ := wmid (k + 23) AB I Y hK hF hi u1 hu2 H
  have k1 := A2.rgm
  have sg := set_self (at_rowOf k1)
  obtain ⟨F2, hF2, k2, y0, y1, y2, y3⟩ := A2.view hu
  have hne := A.ne0
  have hne2 := A2.ne0
  simp only [opP, upd_same] at y0 y1 y2 y3
  have X6 : ∀ M R w nx nc dn wr, pubP ⟨M, R, g.pub, nx, w, nc, dn, wr⟩ gB = pubP g gB := fun _ _ _ _ _ _ _ => rfl
  rw [decide_eq_false (show ¬ (stepR ⟨g.M, g.R, (RO.new .finish (g.w u).frame 0)⟩ u).o.w = 0 by omega)] at e18
  simp only [Bool.not_false] at e18
  have k9 := A2.rop u1 hu2 (o := (stepR ⟨g.M, g.R, (RO.new .finish (g.w u).frame 0)⟩ u).o) (by dsimp only; rw [upd_same])
  have ew0 := fun k => why_ok k _ k9
  have tk : turnK h2 h2 (gr .gm) = true := turnK_of (c1 ▸ k1) (c1 ▸ k1) (gmC_eq z1 z2 _ _ _ _ (by unfold pubP; split <;> simp [eqLV, eqV]) _ _ _ _ _)
  have A3 := A2.left hu ((g.w u).left - 1)
  simp only [upd_same, upd_upd] at A3
  rw [hF2] at A3
  obtain ⟨h3, hh3⟩ : ∃ h3, h2.set (gB .ls) ⟨0, cl (W * 4) (upd F2 (t * 4 + 2) (.i ((g.w u).left - 1)))⟩ = h3 := ⟨_, rfl⟩
  rw [hh3] at A3
  have m1 := A3.rgm
  obtain ⟨F3, hF3, m2, v0, v1, v2, v3⟩ := A3.view hu
  simp only [opP, upd_same] at v0 v1 v2 v3
  have A4 := A3.read hu false
  simp only [upd_same, upd_upd] at A4
  rw [hF3] at A4
  obtain ⟨h4, hh4⟩ : ∃ h4, h3.set (gB .ls) ⟨0, cl (W * 4) (upd F3 (t * 4 + 3) (.b false))⟩ = h4 := ⟨_, rfl⟩
  rw [hh4] at A4
  have n1 := A4.rgm
  have sg4 := set_self (at_rowOf n1)
  obtain ⟨F4, hF4, n2, t0, t1, t2, t3⟩ := A4.view hu
  simp only [opP, upd_same] at t0 t1 t2 t3
  have n9 := A4.rop u1 hu2 (o := (stepR ⟨g.M, g.R, (RO.new .finish (g.w u).frame 0)⟩ u).o) (by dsimp only; rw [upd_same])
  have ew := fun k => why_ok k _ n9
  have tk4 : turnK h4 h4 (gr .gm) = true := turnK_of (c1 ▸ n1) (c1 ▸ n1) (gmC_eq z1 z2 _ _ _ _ (by unfold pubP; split <;> simp [eqLV, eqV]) _ _ _ _ _)
  have tk5 : turnK h4 h4 (gr .ls) = true := turnK_of (c3 ▸ n2) (c3 ▸ n2) (by rw [← hF4]; exact cl_eq _ _ _)
  have hne3 := A3.ne0
  have hne4 := A4.ne0
  have N6 := n1
  have A6 := A4.drop hu
  simp only [upd_same, upd_upd] at A6
  rw [hF4] at A6
  have hlb : (g.w u).left ≤ 100 := hlm
  have w3 : IntKind.i64.wrap ((g.w u).left - 1) = (g.w u).left - 1 := w64 _ (by omega) (by omega)
  have hl0 : ¬ (g.w u).left - 1 = 0 := by omega
  have gx := g1_bc (F := l.length) (Tk := tkF l) hw hl
  rw [if_neg hl1] at gx
  have AZ := (A6.same g.ncl (g.wrong || (decide ((stepR ⟨g.M, g.R, (RO.new .finish (g.w u).frame 0)⟩ u).o.w = 1) != decide ((g.w u).left = 1)))).cast gx.symm
  rw [c3] at AZ
  refine ⟨h4.set (gr .ls) ⟨0, cl (W * 4) (upd F4 (t * 4) (.v (.pointer none)))⟩, row2, gB, ?_, AZ, c1, c8, hrm⟩
  simp only [gmC] at q1
  simp only [gmC, hrm, c1, c2, c3, c4, c5, c6, X6] at p1 p2 x0 k1 sg k2 y0 e18 m1 n1 sg4 ew0 ew hh3 hh4 m2 v0 n2 t0
  have w0 : IntKind.i64.wrap ((u : Int) - 1) = (t : Int) := by rw [w64 _ (by omega) (by omega)]; omega
  have g1 : (t : Int) < (W : Int) := by omega
  have g2 : (0 : Int) ≤ (t : Int) := by omega
  have b0 : t * 4 < W * 4 := by omega
  have b1 : t * 4 + 1 < W * 4 := by omega
  have b2 : t * 4 + 2 < W * 4 := by omega
  have b3 : t * 4 + 3 < W * 4 := by omega
  have b4 : t * 4 + 1 ≤ W * 4 := by omega
  have b5 : t * 4 + 2 ≤ W * 4 := by omega
  have b6 : t * 4 + 3 ≤ W * 4 := by omega
  have b7 : t * 4 + 4 ≤ W * 4 := by omega
  have b8 : t * 4 + 1 + 1 ≤ W * 4 := by omega
  have b9 : t * 4 + 2 + 1 ≤ W * 4 := by omega
  have ba : t * 4 + 3 + 1 ≤ W * 4 := by omega
  have e19 := fun k => claim_mk k A.ne0 (gr .rg)
  have z2a : ∀ x y, (h ++ x).set (gr .ls) y = h.set (gr .ls) y ++ x := fun x y => List.set_append_left _ _ r2
  have z3a : ∀ x cs, rowOf (h.set (gr .ls) ⟨0, cs⟩ ++ x) (gr .ls) 0 = some cs := fun x cs => by rw [rowOf_app_lt (by simpa using r2)]; exact rowOf_set_eq r2
  have z4a : ∀ x, rowOf (h ++ x) (gr .ls) 0 = some (cl (W * 4) F) := fun x => by rw [rowOf_app_lt r2]; exact q2
  have z5a : ∀ x, rowOf (h ++ x) (gr .gm) 0 = rowOf h (gr .gm) 0 := fun x => rowOf_app_lt r1
  have z6a : ∀ x y z, (h.set (gr .ls) y ++ x).set (gr .ls) z = h.set (gr .ls) z ++ x := fun x y z => by rw [List.set_append_left _ _ (by simpa using r2), List.set_set]
  have z8a : ∀ x y cs, rowOf (h.set (gr .ls) ⟨0, cs⟩ ++ x ++ y) (gr .ls) 0 = some cs := fun x y cs => by rw [List.append_assoc]; exact z3a _ _
  have z9a : ∀ x x2 y z, (h.set (gr .ls) y ++ x ++ x2).set (gr .ls) z = h.set (gr .ls) z ++ x ++ x2 := fun x x2 y z => by rw [List.append_assoc, z6a, List.append_assoc]
  have nls : gr .ls ≠ gr .gm := A.ne (τ := .ls) (τ' := .gm) trivial trivial (by simp)
  have z7a : ∀ x y, rowOf (h.set (gr .ls) y ++ x) (gr .gm) 0 = rowOf h (gr .gm) 0 := fun x y => by rw [rowOf_app_lt (by simpa using r1), rowOf_set_ne nls]
  have hn7 : ∀ x y, (h.set (gr .ls) y ++ [x]).isEmpty = false := fun x y => by cases h.set (gr .ls) y <;> rfl
  have e21 := fun k y x => finish_mk k (hn7 x y) (gr .rg) (g.w u).frame
  have ll7 : ∀ (x y : Row), (h.set (gr .ls) y ++ [x]).length = h.length + 1 := fun x y => by rw [List.length_append, List.length_set]; rfl
  have u7 : upd (upd F (t * 4) (.p h.length 0 0)) (t * 4) (.p (h.length + 1) 0 0) = upd F (t * 4) (.p (h.length + 1) 0 0) := upd_upd _ _ _ _
  have u8 : upd F (t * 4) (.p h.length 0 0) (t * 4 + 2) = .i (g.w u).left := by rw [upd_ne _ _ (by omega)]; exact f2
  have u9 : upd F (t * 4) (.p h.length 0 0) (t * 4 + 1) = .i (g.w u).frame := by rw [upd_ne _ _ (by omega)]; exact f1
  have tkx : ∀ (x y : Row) , turnK (h.set (gr .ls) y ++ [x]) (h.set (gr .ls) y ++ [x]) (gr .gm) = true := fun x y => by
    have := (rowOf_app_lt (t := [x]) (k := gr .gm) (v := 0) (h := h.set (gr .ls) y) (by simpa using r1)).trans ((rowOf_set_ne nls).trans q1)
    exact turnK_of this this (gmC_eq z1 z2 _ _ _ _ (by unfold pubP; split <;> simp [eqLV, eqV]) _ _ _ _ _)
  generalize (RO.new .finish (g.w u).frame 0).cells (gr .rg) = od at *
  generalize (RO.new .claim 0 0).cells (gr .rg) = oc at *
  simp only [opP, ho] at f0
  rw [hr] at f3
  rw [evX_fun (m := c11) rfl _ _ _ _ A.ne0 rfl]
  simp -implicitDefEqProofs (maxSteps := 1000000) only [c11, q1, k1, sg, e18, k2, y0, y1, y2, y3, q2, f0, f1, f2, f3, p1, p2, x0, x1, x2, x3, ew0, tk, ew, hh3, hh4, m1, m2, v0, v1, v2, v3, n1, n2, t0, t1, t2, t3, sg4, tk4, tk5, w3, hl0, hw1, w0, g1, g2, b0, b1, b2, b3, b4, b5, b6, b7, b8, b9, ba, e19, z2a, z3a, z4a, z5a, z6a, z8a, z9a, z7a, e21, ll7, u7, u8, u9, tkx, hl, cl_get, cl_length, cl_put, evX_P, evX_N, push_cast, Nat.reduceAdd, Nat.reduceMul, Nat.reduceSub, Nat.reduceLT, Nat.reduceLeDiff, Nat.reduceEqDiff, Nat.reducePow, Int.reduceToNat, Int.reduceLT, Int.reduceLE, Int.reduceNeg, Int.reduceEq, Int.reducePow, reduceIte, reduceCtorEq, Int.reduceMul, Int.reduceAdd, Int.reduceSub, Int.reduceMod, Int.reduceDiv, Int.reduceTDiv, Int.reduceTMod, iter_s, hhB]
end
end Go.Proofs.Ytcmlnjkbdlakfaa

