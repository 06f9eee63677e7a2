/- A run of an owner and of thieves: a thread's step, whatever it is, as the evaluator answers. -/
import Derived.Test.YtjoldlaoncdcgaaEF
set_option linter.unusedSimpArgs false
set_option linter.unusedVariables false
set_option maxRecDepth 100000
set_option maxHeartbeats 16000000
namespace Go.Proofs.Ytjoldlaoncdcgaa
open Go
section
variable {S1 S2 : LV} {th : Int} {c n i T : Nat} {push : List Bool} {X : List Int} {h : List Row} {G : GM} {row : Tg → Nat} {gr : GR → Nat}
/-- A new operation, or none. -/
theorem gbegin_ok (k : Nat) (A : GAt S1 S2 c th h G row gr) (Y : AX push c n i G) {t : Nat} (ht : t < n) (hn : n ≤ 20) (hp : push.length ≤ 40) (hS : SlB push S1) :
    match newop push c t (G.th t).next with
    | none => evF cm (k + 2) 29 [.p (gr .gm) 0 0, .i t] h 0 = some (.b false, h)
    | some o => evF cm (k + 2) 29 [.p (gr .gm) 0 0, .i t] h 0 = some (.b true, newH c h G gr t o.cells) := by
  have ht' : t < G.n := by rw [Y.Gn]; exact ht
  have hn' : G.n ≤ 20 := by rw [Y.Gn]; exact hn
  unfold newop
  by_cases h0 : 0 < t
  · rw [if_pos h0]
    by_cases hx : (G.th t).next < 12
    · rw [if_pos hx]; exact begin_th k A h0 ht' hn' hx
    · rw [if_neg hx]; exact begin_th0 k A h0 ht' hn' hx
  · have h00 : t = 0 := by omega
    rw [if_neg h0]
    by_cases hx : (G.th t).next < push.length
    · rw [if_pos hx]
      by_cases hb : push.getD (G.th t).next false = true
      · rw [if_pos hb]; exact begin_push k A h00 ht' hn' push hS hx hb (by omega)
      · rw [if_neg hb]; exact begin_pop k A h00 ht' hn' push hS hx (by simpa using hb) (by omega)
    · rw [if_neg hx]; exact begin_own0 k A h00 ht' hn' push hS hx
/-- A step of a thread that begins. -/
theorem step_new (k : Nat) (A : GAt S1 S2 c th h G row gr) (H : PI push c G T X) (Y : AX push c n i G) {t : Nat} (ht : t < n) (hn : n ≤ 20) (hc : c ≤ 100) (hi : i ≤ 10000) (hp : push.length ≤ 40) (hS : SlB push S1) (ho : (G.th t).o = none) (hov : (G.th t).over = false) {o : AO} (hno : newop push c t (G.th t).next = some o) :
    ∃ h' row' gr', evF cm (k + 140) 23 [.p (gr .gm) 0 0, .i t] h 0 = some (.tup [], h') ∧ GAt S1 S2 c th h' (doG push (begG G t o) t o) row' gr' ∧ gr' .gm = gr .gm := by
  have ht' : t < G.n := by rw [Y.Gn]; exact ht
  have q1 := A.rgm
  obtain ⟨F, hF, q2, f0, f1, f2, f3⟩ := A.view t
  rw [hov] at f3
  simp only [opP, ho] at f0
  have r1 := rowOf_lt q1
  have e29 := gbegin_ok (k + 137) A Y ht hn hp hS
  rw [hno] at e29
  simp only at e29
  have Hb := H.begin ht' hp ho hov hno
  have Yb := Y.begin hno
  have Ab : GAt S1 S2 c th (newH c h G gr t o.cells) (begG G t o) row (setC gr (.op t) (h.length + 1)) := A.begin ht' hov o rfl
  have hob : ((begG G t o).th t).o = some o := by simp only [begG, putT_same]
  have hgb : (begG G t o).th t = ⟨some o, (G.th t).next + 1, 0, false⟩ := by simp only [begG, putT_same]
  generalize newH c h G gr t o.cells = hB at *
  obtain ⟨grB, hgr⟩ : ∃ grB, setC gr (.op t) (h.length + 1) = grB := ⟨_, rfl⟩
  have gm0 : grB .gm = gr .gm := by rw [← hgr]; exact setC_ne _ _ (by simp)
  have ls0 : grB .ls = gr .ls := by rw [← hgr]; exact setC_ne _ _ (by simp)
  rw [hgr] at Ab
  obtain ⟨h2, row2, F2, e18, k1, k2, f20, f22, hrm, A3⟩ := mid_ok (k + 25) Ab Hb Yb ht hc hi hob
  obtain ⟨z1, z2, z3, z4, z5, z6⟩ := Hb.sizes Yb ht hob
  have p1 := Ab.rgm
  obtain ⟨FB, hFB, p2, y0, y1, y2, y3⟩ := Ab.view t
  simp only [opP, hob] at y0
  rw [gm0, ls0] at k1 p1
  rw [ls0] at k2 p2 A3
  rw [hgb] at f22 A3
  rw [show (begG G t o).n = G.n from rfl] at *
  unfold gmC at q1 k1 p1
  have g1 : (t : Int) < (G.n : Int) := by omega
  have g2 : (0 : Int) ≤ (t : Int) := by omega
  have b0 : t * 4 < G.n * 4 := by omega
  have b1 : t * 4 + 1 < G.n * 4 := by omega
  have b2 : t * 4 + 2 < G.n * 4 := by omega
  have b3 : t * 4 + 3 < G.n * 4 := by omega
  have b4 : t * 4 + 1 + 1 ≤ G.n * 4 := by omega
  have b5 : t * 4 + 2 + 1 ≤ G.n * 4 := by omega
  have w1 : IntKind.i64.wrap ((0 : Int) + 1) = 1 := by decide
  have z0 : ((0 : Nat) : Int) = 0 := rfl
  have z01 : (0 : Int) + 1 = 1 := rfl
  simp only [z0, z01] at f22 A3
  have ok1 : ∀ x a b p q, okRM1 [0, 1, 2, 3, 4, 5, 6, 7, 8] x a b [(0, []), (1, []), (2, []), (3, [p]), (4, []), (5, []), (6, []), (7, [q]), (8, [])] = true := fun x a b p q => by cases x <;> rfl
  unfold doG
  have hss : ((contG (begG G t o) t (stepO o (begG G t o).M t).1 (stepO o (begG G t o).M t).2).th t) = ⟨some (stepO o (begG G t o).M t).2, ((begG G t o).th t).next, ((begG G t o).th t).steps + 1, ((begG G t o).th t).over⟩ := by simp only [contG, upd_same]
  by_cases hw : (stepO o (begG G t o).M t).2.w = 0
  · rw [if_pos hw]
    rw [hw] at e18
    simp only [decide_true, Bool.not_true] at e18
    refine ⟨_, row2, grB, ?_, A3, gm0⟩
    rw [evX_fun (m := c23) rfl _ _ _ _ A.ne0 rfl]
    simp -implicitDefEqProofs (maxSteps := 1000000) only [c23, q1, q2, f0, f3, g1, g2, b0, b1, b2, b3, b4, b5, cl_get, cl_length, cl_put, e29, p1, p2, y0, e18, k1, k2, f20, f22, w1, ok1, evX_P, evX_N, push_cast, Nat.reduceAdd, Nat.reduceMul, Nat.reduceSub, Nat.reduceLT, Nat.reduceLeDiff, Nat.reduceEqDiff, Nat.reducePow, Int.reduceToNat, Int.reduceLT, Int.reduceLE, Int.reduceNeg, Int.reduceEq, Int.reducePow, reduceIte, reduceCtorEq, Int.reduceMul, Int.reduceAdd, Int.reduceSub, Int.reduceMod, Int.reduceDiv, Int.reduceTDiv, Int.reduceTMod, iter_s]
  · rw [if_neg hw]
    rw [decide_eq_false hw] at e18
    simp only [Bool.not_false] at e18
    obtain ⟨h4, gr4, e30, A4, hg4⟩ := end_ok (k + 136) A3 (t := t) (show t < G.n from ht') (by show G.n ≤ 20; rw [Y.Gn]; exact hn) push hS (o := (stepO o (begG G t o).M t).2) (by rw [hss]) (by rw [hss]; exact z1) (by rw [hss]; exact z2) (by rw [hss]; exact z3) (by rw [hss, stepO_tk]; exact z4) (by rw [hss]; exact z5) (by rw [hss, stepO_tk]; exact z6) (by show G.pu.length < _; have := Y.pu; omega) (by show G.st.length < _; have := Y.st; omega) (by show G.go.length < _; have := Y.go; omega)
    rw [ends_eq] at A4
    rw [gm0] at e30 hg4
    refine ⟨h4, row2, gr4, ?_, A4, hg4⟩
    rw [evX_fun (m := c23) rfl _ _ _ _ A.ne0 rfl]
    simp -implicitDefEqProofs (maxSteps := 1000000) only [c23, q1, q2, f0, f3, g1, g2, b0, b1, b2, b3, b4, b5, cl_get, cl_length, cl_put, e29, p1, p2, y0, e18, k1, k2, f20, f22, w1, ok1, e30, evX_P, evX_N, push_cast, Nat.reduceAdd, Nat.reduceMul, Nat.reduceSub, Nat.reduceLT, Nat.reduceLeDiff, Nat.reduceEqDiff, Nat.reducePow, Int.reduceToNat, Int.reduceLT, Int.reduceLE, Int.reduceNeg, Int.reduceEq, Int.reducePow, reduceIte, reduceCtorEq, Int.reduceMul, Int.reduceAdd, Int.reduceSub, Int.reduceMod, Int.reduceDiv, Int.reduceTDiv, Int.reduceTMod, iter_s]
/-- A thread's step. -/
theorem gstep_ok (k : Nat) (A : GAt S1 S2 c th h G row gr) (H : PI push c G T X) (Y : AX push c n i G) {t : Nat} (ht : t < n) (hn : n ≤ 20) (hc : c ≤ 100) (hi : i ≤ 10000) (hp : push.length ≤ 40) (hS : SlB push S1) :
    ∃ h' row' gr', evF cm (k + 140) 23 [.p (gr .gm) 0 0, .i t] h 0 = some (.tup [], h') ∧ GAt S1 S2 c th h' (stepG push c G t) row' gr' ∧ gr' .gm = gr .gm := by
  have ht' : t < G.n := by rw [Y.Gn]; exact ht
  unfold stepG
  by_cases hov : (G.th t).over = true
  · rw [if_pos hov]
    have q1 := A.rgm
    obtain ⟨F, hF, q2, f0, f1, f2, f3⟩ := A.view t
    rw [hov] at f3
    unfold gmC at q1
    have g1 : (t : Int) < (G.n : Int) := by omega
    have g2 : (0 : Int) ≤ (t : Int) := by omega
    have b3 : t * 4 + 3 < G.n * 4 := by omega
    refine ⟨h, row, gr, ?_, A, rfl⟩
    rw [evX_fun (m := c23) rfl _ _ _ _ A.ne0 rfl]
    simp -implicitDefEqProofs only [c23, q1, q2, f3, g1, g2, b3, cl_get, cl_length, push_cast, Nat.reduceAdd, Nat.reduceMul, Nat.reduceSub, Nat.reduceLT, Nat.reduceLeDiff, Nat.reduceEqDiff, Nat.reducePow, Int.reduceToNat, Int.reduceLT, Int.reduceLE, Int.reduceNeg, Int.reduceEq, Int.reducePow, reduceIte, reduceCtorEq, Int.reduceMul, Int.reduceAdd, Int.reduceSub, Int.reduceMod, Int.reduceDiv, Int.reduceTDiv, Int.reduceTMod, iter_s]
  · rw [if_neg hov]
    have hov' : (G.th t).over = false := by simpa using hov
    cases ho : (G.th t).o with
    | some o => exact step_has k A H Y ht hn hc hi hS ho
    | none =>
      simp only
      cases hno : newop push c t (G.th t).next with
      | some o => exact step_new k A H Y ht hn hc hi hp hS ho hov' hno
      | none =>
        have e29 := gbegin_ok (k + 137) A Y ht hn hp hS
        rw [hno] at e29
        simp only at e29
        have q1 := A.rgm
        obtain ⟨F, hF, q2, f0, f1, f2, f3⟩ := A.view t
        rw [hov'] at f3
        simp only [opP, ho] at f0
        unfold gmC at q1
        have g1 : (t : Int) < (G.n : Int) := by omega
        have g2 : (0 : Int) ≤ (t : Int) := by omega
        have b0 : t * 4 < G.n * 4 := by omega
        have b3 : t * 4 + 3 < G.n * 4 := by omega
        have b4 : t * 4 + 3 + 1 ≤ G.n * 4 := by omega
        have b5 : t * 4 + 4 ≤ G.n * 4 := by omega
        have A3 := A.drop t ⟨none, (G.th t).next, (G.th t).steps, true⟩ rfl (F := upd F (t * 4 + 3) (.b true)) (fun u _ => quit_F hF ho u)
        refine ⟨_, row, gr, ?_, A3, rfl⟩
        rw [evX_fun (m := c23) rfl _ _ _ _ A.ne0 rfl]
        simp -implicitDefEqProofs (maxSteps := 1000000) only [c23, q1, q2, f0, f3, g1, g2, b0, b3, b4, b5, cl_get, cl_length, cl_put, e29, evX_P, evX_N, push_cast, Nat.reduceAdd, Nat.reduceMul, Nat.reduceSub, Nat.reduceLT, Nat.reduceLeDiff, Nat.reduceEqDiff, Nat.reducePow, Int.reduceToNat, Int.reduceLT, Int.reduceLE, Int.reduceNeg, Int.reduceEq, Int.reducePow, reduceIte, reduceCtorEq, Int.reduceMul, Int.reduceAdd, Int.reduceSub, Int.reduceMod, Int.reduceDiv, Int.reduceTDiv, Int.reduceTMod, iter_s]
end
end Go.Proofs.Ytjoldlaoncdcgaa
