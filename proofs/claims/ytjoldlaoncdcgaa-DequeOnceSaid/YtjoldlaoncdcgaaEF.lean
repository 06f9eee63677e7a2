/- A run of an owner and of thieves: a thread's step, as the evaluator answers. -/
import Derived.Test.YtjoldlaoncdcgaaED
import Derived.Test.YtjoldlaoncdcgaaEE
set_option linter.unusedSimpArgs false
set_option linter.unusedVariables false
set_option maxRecDepth 100000
set_option maxHeartbeats 16000000
namespace Go.Proofs.Ytjoldlaoncdcgaa
open Go
theorem upd_upd {α : Type} (f : Nat → α) (t : Nat) (a b : α) : upd (upd f t a) t b = upd f t b := by
  funext u
  by_cases h : u = t
  · subst h; rw [upd_same, upd_same]
  · rw [upd_ne _ _ h, upd_ne _ _ h, upd_ne _ _ h]
theorem turn_F {G : GM} {gr : GR → Nat} {t : Nat} {F : Nat → LV} (hF : qc G gr = F) (s : Nat) (u : Nat) :
    upd F (t * 4 + 2) (.i s) (u * 4) = qc (setO G t ⟨(G.th t).o, (G.th t).next, s, (G.th t).over⟩) gr (u * 4) ∧ upd F (t * 4 + 2) (.i s) (u * 4 + 1) = qc (setO G t ⟨(G.th t).o, (G.th t).next, s, (G.th t).over⟩) gr (u * 4 + 1) ∧ upd F (t * 4 + 2) (.i s) (u * 4 + 2) = qc (setO G t ⟨(G.th t).o, (G.th t).next, s, (G.th t).over⟩) gr (u * 4 + 2) ∧ upd F (t * 4 + 2) (.i s) (u * 4 + 3) = qc (setO G t ⟨(G.th t).o, (G.th t).next, s, (G.th t).over⟩) gr (u * 4 + 3) := by
  subst hF
  rw [qc0, qc1, qc2, qc3]
  by_cases e : u = t
  · subst e
    simp only [opP, setO_same]
    rw [upd_same, upd_ne _ _ (by omega), upd_ne _ _ (by omega), upd_ne _ _ (by omega), qc0, qc1, qc3]
    exact ⟨rfl, rfl, rfl, rfl⟩
  · simp only [opP, setO_ne _ _ e]
    rw [upd_ne _ _ (by omega), upd_ne _ _ (by omega), upd_ne _ _ (by omega), upd_ne _ _ (by omega), qc0, qc1, qc2, qc3]
    exact ⟨rfl, rfl, rfl, rfl⟩
theorem quit_F {G : GM} {gr : GR → Nat} {t : Nat} {F : Nat → LV} (hF : qc G gr = F) (ho : (G.th t).o = none) (u : Nat) :
    upd F (t * 4 + 3) (.b true) (u * 4) = qc (setO G t ⟨none, (G.th t).next, (G.th t).steps, true⟩) gr (u * 4) ∧ upd F (t * 4 + 3) (.b true) (u * 4 + 1) = qc (setO G t ⟨none, (G.th t).next, (G.th t).steps, true⟩) gr (u * 4 + 1) ∧ upd F (t * 4 + 3) (.b true) (u * 4 + 2) = qc (setO G t ⟨none, (G.th t).next, (G.th t).steps, true⟩) gr (u * 4 + 2) ∧ upd F (t * 4 + 3) (.b true) (u * 4 + 3) = qc (setO G t ⟨none, (G.th t).next, (G.th t).steps, true⟩) gr (u * 4 + 3) := by
  subst hF
  rw [qc0, qc1, qc2, qc3]
  by_cases e : u = t
  · subst e
    simp only [opP, setO_same, ho]
    rw [upd_same, upd_ne _ _ (by omega), upd_ne _ _ (by omega), upd_ne _ _ (by omega), qc0, qc1, qc2]
    simp only [opP, ho]
    exact ⟨trivial, trivial, trivial, trivial⟩
  · simp only [opP, setO_ne _ _ e]
    rw [upd_ne _ _ (by omega), upd_ne _ _ (by omega), upd_ne _ _ (by omega), upd_ne _ _ (by omega), qc0, qc1, qc2, qc3]
    exact ⟨rfl, rfl, rfl, rfl⟩
section
variable {S1 S2 : LV} {th : Int} {c n i T : Nat} {push : List Bool} {X : List Int} {h : List Row} {G : GM} {row : Tg → Nat} {gr : GR → Nat}
/-- What a step of an operation comes to, and the count. -/
theorem mid_ok (k : Nat) (A : GAt S1 S2 c th h G row gr) (H : PI push c G T X) (Y : AX push c n i G) {t : Nat} (ht : t < n) (hc : c ≤ 100) (hi : i ≤ 10000) {o : AO} (ho : (G.th t).o = some o) :
    ∃ h2 row2 F2, evF cm (k + 114) 18 [.p (gr (.op t)) 0 0, .p (row .mem) 0 0, .i t] h 0 = some (.tup [.b (!decide ((stepO o G.M t).2.w = 0)), .i 0], h2) ∧ rowOf h2 (gr .gm) 0 = some (gmC S1 S2 c th (row .mem) (gr .ls) G.n (outG 1 (gr .pu) G.pu.length) (outG 1 (gr .st) G.st.length) (outG 1 (gr .go) G.go.length)) ∧ rowOf h2 (gr .ls) 0 = some (cl (G.n * 4) F2) ∧ F2 (t * 4) = .p (gr (.op t)) 0 0 ∧ F2 (t * 4 + 2) = .i (G.th t).steps ∧
      row2 .mem = row .mem ∧ GAt S1 S2 c th (h2.set (gr .ls) ⟨0, cl (G.n * 4) (upd F2 (t * 4 + 2) (.i ((G.th t).steps + 1)))⟩) (contG G t (stepO o G.M t).1 (stepO o G.M t).2) row2 gr := by
  have ht' : t < G.n := by rw [Y.Gn]; exact ht
  have W : OpW c (G.th t) o := by
    by_cases h0 : t = 0
    · subst h0; exact (H.own o ho).2.1
    · exact (H.thi t (by omega) ht' o ho).2
  have hlt : liveG G (.op t) := And.intro ht' (by rw [ho]; simp)
  have hops := Y.ops
  obtain ⟨h2, row2, e, R⟩ := step_ok k (tt := t) o ⟨A.mem, A.rop ht' ho, A.dis _ hlt, by rw [Y.Mn]; exact ht, by rw [W.a, W.c, Y.na]; omega, by rw [W.c]; exact H.c0, by rw [Y.na]; omega, by omega⟩ (H.fits ht' ho) W.w
  have A2 := A.step ht' ho R
  obtain ⟨F2, hF2, k2, f0, f1, f2, f3⟩ := A2.view t
  have k1 := A2.rgm
  have A3 := A2.turn t ⟨some (stepO o G.M t).2, (G.th t).next, (G.th t).steps + 1, (G.th t).over⟩ (by rw [setM_th, setO_same]) (F := upd F2 (t * 4 + 2) (.i ((G.th t).steps + 1))) (fun u _ => by
    have := turn_F (t := t) hF2 ((G.th t).steps + 1) u
    rw [setM_th, setO_same] at this
    exact this)
  refine ⟨h2, row2, F2, e, ?_, k2, ?_, ?_, R.rm, ?_⟩
  · rw [k1, R.rm]; rfl
  · rw [f0]; simp only [opP, setM_th, setO_same]
  · rw [f2, setM_th, setO_same]
  · have e2 : setO (setM (setO G t ⟨some (stepO o G.M t).2, (G.th t).next, (G.th t).steps, (G.th t).over⟩) (stepO o G.M t).1) t ⟨some (stepO o G.M t).2, (G.th t).next, (G.th t).steps + 1, (G.th t).over⟩ = contG G t (stepO o G.M t).1 (stepO o G.M t).2 := by
      simp only [setO, setM, contG, upd_upd]
    rw [e2] at A3
    exact A3
theorem ends_eq (G : GM) (t : Nat) (M' : AM) (o' : AO) : endS push (contG G t M' o') t o' = endG push G t M' o' := by
  simp only [endS, contG, endG, upd_same, upd_upd]
/-- The sizes at an operation's end. -/
theorem PI.sizes (H : PI push c G T X) (Y : AX push c n i G) {t : Nat} (ht : t < n) {o : AO} (ho : (G.th t).o = some o) :
    0 < (G.th t).next ∧ ((G.th t).next ≤ push.length ∨ 0 < t) ∧ (G.th t).next ≤ 1000 ∧ (t = 0 → push.getD ((G.th t).next - 1) false = !o.tk) ∧ (G.th t).steps + 1 ≤ 6 ∧ (0 < t ∨ o.tk = false → (G.th t).steps + 1 ≤ 4) := by
  have ht' : t < G.n := by rw [Y.Gn]; exact ht
  by_cases h0 : t = 0
  · subst h0
    obtain ⟨q1, q2, q3, q4⟩ := H.own o ho
    have hx := H.nx
    refine ⟨q2.nx, .inl Y.nx0, by omega, fun _ => by rw [q3, q2.tk]; simp, ?_, fun h => ?_⟩
    · rw [q2.steps]; cases o.pc <;> simp [depth]
    · have htk := h.resolve_left (by omega)
      rw [q2.tk] at htk
      rw [q2.steps]
      revert htk
      cases o.pc <;> simp [depth, isPush]
  · obtain ⟨q1, q2⟩ := H.thi t (by omega) ht' o ho
    have hx := Y.nxt t (by omega)
    have hd : depth o.pc ≤ 3 := by
      unfold thOk at q1
      revert q1
      cases o.pc <;> simp [depth]
    exact ⟨q2.nx, .inr (by omega), by omega, fun h => absurd h h0, by rw [q2.steps]; omega, fun _ => by rw [q2.steps]; omega⟩
theorem stepO_tk (o : AO) (M : AM) (t : Nat) : (stepO o M t).2.tk = o.tk := (stepO_n o M t).2.2.2.2.2.2.2.2
/-- A step of a thread that has an operation. -/
theorem step_has (k : Nat) (A : GAt S1 S2 c th h G row gr) (H : PI push c G T X) (Y : AX push c n i G) {t : Nat} (ht : t < n) (hn : n ≤ 20) (hc : c ≤ 100) (hi : i ≤ 10000) (hS : SlB push S1) {o : AO} (ho : (G.th t).o = some o) :
    ∃ h' row' gr', evF cm (k + 140) 23 [.p (gr .gm) 0 0, .i t] h 0 = some (.tup [], h') ∧ GAt S1 S2 c th h' (doG push G t o) row' gr' ∧ gr' .gm = gr .gm := by
  have ht' : t < G.n := by rw [Y.Gn]; exact ht
  have W : OpW c (G.th t) o := by
    by_cases h0 : t = 0
    · subst h0; exact (H.own o ho).2.1
    · exact (H.thi t (by omega) ht' o ho).2
  obtain ⟨h2, row2, F2, e18, k1, k2, f20, f22, hrm, A3⟩ := mid_ok (k + 25) A H Y ht hc hi ho
  obtain ⟨z1, z2, z3, z4, z5, z6⟩ := H.sizes Y ht ho
  have q1 := A.rgm
  obtain ⟨F, hF, q2, f0, f1, f2, f3⟩ := A.view t
  rw [W.ov] at f3
  simp only [opP, ho] at f0
  unfold gmC at q1 k1
  have r1 := rowOf_lt q1
  have g1 : (t : Int) < (G.n : Int) := by omega
  have g2 : (0 : Int) ≤ (t : Int) := by omega
  have b0 : t * 4 < G.n * 4 := by omega
  have b1 : t * 4 + 1 < G.n * 4 := by omega
  have b2 : t * 4 + 2 < G.n * 4 := by omega
  have b3 : t * 4 + 3 < G.n * 4 := by omega
  have b4 : t * 4 + 1 + 1 ≤ G.n * 4 := by omega
  have b5 : t * 4 + 2 + 1 ≤ G.n * 4 := by omega
  have w1 : IntKind.i64.wrap (((G.th t).steps : Int) + 1) = ((G.th t).steps : Int) + 1 := w64 _ (by omega) (by omega)
  have ok1 : ∀ x a b p q, okRM1 [0, 1, 2, 3, 4, 5, 6, 7, 8] x a b [(0, []), (1, []), (2, []), (3, [p]), (4, []), (5, []), (6, []), (7, [q]), (8, [])] = true := fun x a b p q => by cases x <;> rfl
  unfold doG
  have hss : ((contG G t (stepO o G.M t).1 (stepO o G.M t).2).th t) = ⟨some (stepO o G.M t).2, (G.th t).next, (G.th t).steps + 1, (G.th t).over⟩ := by simp only [contG, upd_same]
  by_cases hw : (stepO o G.M t).2.w = 0
  · rw [if_pos hw]
    rw [hw] at e18
    simp only [decide_true, Bool.not_true] at e18
    refine ⟨_, row2, gr, ?_, A3, rfl⟩
    rw [evX_fun (m := c23) rfl _ _ _ _ A.ne0 rfl]
    simp -implicitDefEqProofs (maxSteps := 1000000) only [c23, q1, q2, f0, f3, g1, g2, b0, b1, b2, b3, b4, b5, cl_get, cl_length, cl_put, e18, k1, k2, f20, f22, w1, ok1, evX_P, evX_N, push_cast, Nat.reduceAdd, Nat.reduceMul, Nat.reduceSub, Nat.reduceLT, Nat.reduceLeDiff, Nat.reduceEqDiff, Nat.reducePow, Int.reduceToNat, Int.reduceLT, Int.reduceLE, Int.reduceNeg, Int.reduceEq, Int.reducePow, reduceIte, reduceCtorEq, Int.reduceMul, Int.reduceAdd, Int.reduceSub, Int.reduceMod, Int.reduceDiv, Int.reduceTDiv, Int.reduceTMod, iter_s]
  · rw [if_neg hw]
    rw [decide_eq_false hw] at e18
    simp only [Bool.not_false] at e18
    obtain ⟨h4, gr4, e30, A4, hg4⟩ := end_ok (k + 136) A3 (t := t) (show t < G.n from ht') (by show G.n ≤ 20; rw [Y.Gn]; exact hn) push hS (o := (stepO o G.M t).2) (by rw [hss]) (by rw [hss]; exact z1) (by rw [hss]; exact z2) (by rw [hss]; exact z3) (by rw [hss, stepO_tk]; exact z4) (by rw [hss]; exact z5) (by rw [hss, stepO_tk]; exact z6) (by show G.pu.length < _; have := Y.pu; omega) (by show G.st.length < _; have := Y.st; omega) (by show G.go.length < _; have := Y.go; omega)
    rw [ends_eq] at A4
    refine ⟨h4, row2, gr4, ?_, A4, hg4⟩
    rw [evX_fun (m := c23) rfl _ _ _ _ A.ne0 rfl]
    simp -implicitDefEqProofs (maxSteps := 1000000) only [c23, q1, q2, f0, f3, g1, g2, b0, b1, b2, b3, b4, b5, cl_get, cl_length, cl_put, e18, k1, k2, f20, f22, w1, ok1, e30, evX_P, evX_N, push_cast, Nat.reduceAdd, Nat.reduceMul, Nat.reduceSub, Nat.reduceLT, Nat.reduceLeDiff, Nat.reduceEqDiff, Nat.reducePow, Int.reduceToNat, Int.reduceLT, Int.reduceLE, Int.reduceNeg, Int.reduceEq, Int.reducePow, reduceIte, reduceCtorEq, Int.reduceMul, Int.reduceAdd, Int.reduceSub, Int.reduceMod, Int.reduceDiv, Int.reduceTDiv, Int.reduceTMod, iter_s]
end
end Go.Proofs.Ytjoldlaoncdcgaa
