/- A memory's operations, as the evaluator answers: locks. -/
import Derived.Test.YtcmlnjkbdlakfaaMP
set_option linter.unusedSimpArgs false
set_option linter.unusedVariables false
set_option maxRecDepth 100000
set_option maxHeartbeats 16000000
namespace Go.Proofs.Ytcmlnjkbdlakfaa
open Go
/-! ### Ops -/
/-! ### Lock -/
theorem lock_err (k : Nat) (h : List Row) (M : AM) (row : Tg → Nat) (H : MemAt h M row) (t a : Int) (hb : t < 0 ∨ (M.n : Int) ≤ t ∨ a < 0 ∨ (M.nl : Int) ≤ a) :
    evF cm (k + 4) 43 [.p (row .mem) 0 0, .i t, .i a] h 0 = some (.tup [.b false, .i 2], h) := by
  have e1 := fun k => nlocks k h M row H
  have e2 := fun k => begin_err k h 0 M row H t a M.nl hb
  rw [evX_fun (m := c43) rfl _ _ _ _ H.ne0 rfl]
  simp -implicitDefEqProofs only [c43, e1, e2, push_cast, Nat.reduceAdd, Nat.reduceMul, Nat.reduceSub, Nat.reduceLT, Nat.reduceLeDiff, Nat.reduceEqDiff, Nat.reducePow, Int.reduceToNat, Int.reduceLT, Int.reduceLE, Int.reduceNeg, Int.reduceEq, Int.reducePow, reduceIte, reduceCtorEq, Int.reduceMul, Int.reduceAdd, Int.reduceSub, Int.reduceMod, Int.reduceDiv, Int.reduceTDiv, Int.reduceTMod, iter_s]
theorem lock_own {M : AM} {row : Tg → Nat} {l : Nat} {x : Int} (j : Nat) (hj : own { M with lo := upd M.lo l x } row j) : own M row j := by
  obtain ⟨τ, h1, h2⟩ := hj
  exact ⟨τ, by cases τ <;> exact h1, h2⟩
theorem lock_ok (k : Nat) (h : List Row) (M : AM) (row : Tg → Nat) (H : MemAt h M row) (t a : Nat) (ht : t < M.n) (ha : a < M.nl) (hops : M.ops < 1000000000) :
    ∃ h', evF cm (k + 110) 43 [.p (row .mem) 0 0, .i t, .i a] h 0 = some (.tup [.b (decide (M.lo a = -1)), .i 0], h') ∧ MemAt h' (M.lock t a) row ∧ Frm (own M row) (own (M.lock t a) row) h h' := by
  have e1 := fun k => nlocks k h M row H
  obtain ⟨h1, e2, H1, F1⟩ := begin_ok (k + 108) h M row H t a M.nl ht ha hops
  have g1 : (t : Int) < (M.n : Int) := by omega
  have g2 : (0 : Int) ≤ (t : Int) := by omega
  have g3 : (a : Int) < (M.nl : Int) := by omega
  have g4 : (0 : Int) ≤ (a : Int) := by omega
  have cg := clks_get (row := row) ht
  have p1 : ∀ f : Nat → LV, (prs M.nl f fun l => kn M.n (row (.lk l)) (M.lk l))[a * 2 + 1]? = some (kn M.n (row (.lk a)) (M.lk a)) := fun f => prs_snd ha
  have p2 : (prs M.nl (fun l => LV.i (M.lo l)) fun l => kn M.n (row (.lk l)) (M.lk l))[a * 2]? = some (.i (M.lo a)) := prs_fst ha
  have p3 := fun f g x => prs_put1 (n := M.nl) (f := f) (g := g) (x := x) ha
  have p4 : ∀ f g, a * 2 + 1 ≤ (prs M.nl f g).length := fun f g => by rw [prs_length]; omega
  have m1 := H1.rmem
  have m2 := H1.rclks
  have m3 := H1.rlocks
  have q1 : ∀ x, rowOf (h1.set (row .locks) x) (row .mem) 0 = rowOf h1 (row .mem) 0 := fun x => rowOf_set_ne (H1.hat.ne (τ := .locks) (τ' := .mem) trivial trivial (by simp))
  have q2 : ∀ x, rowOf (h1.set (row .locks) x) (row .clks) (M.n - 1) = rowOf h1 (row .clks) (M.n - 1) := fun x => rowOf_set_ne (H1.hat.ne (τ := .locks) (τ' := .clks) trivial trivial (by simp))
  have q3 : ∀ cs, rowOf (h1.set (row .locks) ⟨0, cs⟩) (row .locks) 0 = some cs := fun cs => rowOf_set_eq (H1.hat.lt (τ := .locks) trivial)
  by_cases hx : M.lo a = -1
  · have H2 : MemAt (h1.set (row .locks) ⟨0, prs M.nl (upd (fun l => LV.i (M.lo l)) a (.i t)) fun l => kn M.n (row (.lk l)) (M.lk l)⟩) { M.tick t with lo := upd M.lo a t } row := by
      refine ⟨(H1.hat.put .locks trivial _).cast fun τ hτ => ⟨by cases τ <;> exact hτ, rfl, ?_⟩, ⟨H1.wf.ops, H1.wf.clk, H1.wf.ak, H1.wf.lk⟩, H1.n⟩
      cases τ with
      | locks =>
        rw [setC_eq]
        simp only [cont, AM.tick]
        refine congrArg _ (prs_congr fun i hi => ?_)
        by_cases hia : i = a
        · subst hia; simp [upd_same]
        · simp [upd_ne _ _ hia]
      | _ => rfl
    have F2 : Frm (own (M.tick t) row) (own { M.tick t with lo := upd M.lo a t } row) h1 (h1.set (row .locks) ⟨0, prs M.nl (upd (fun l => LV.i (M.lo l)) a (.i t)) fun l => kn M.n (row (.lk l)) (M.lk l)⟩) :=
      Frm.put ⟨.locks, trivial, rfl⟩ (fun j hj => lock_own (M := M.tick t) (l := a) (x := t) j hj) _
    obtain ⟨h2, e3, H3, F3⟩ := mem_join (k + 9) _ _ row H2 t (row (.lk a)) ht (M.lk a) (fun f hf => ⟨H2.rlk ha hf, H2.hat.ne (τ := .clk t) (τ' := .lk a) ht ⟨ha, by show M.lk a ≠ none; rw [hf]; simp⟩ (by simp), fun u => H2.wf.lk a f hf u⟩)
    have es : M.lock t a = AM.join { M.tick t with lo := upd M.lo a t } t (M.lk a) := by unfold AM.lock; rw [if_pos hx]; rfl
    rw [es]
    refine ⟨h2, ?_, H3, (F1.trans F2).trans F3⟩
    simp only [AM.tick, AM.join] at m1 m2 m3 e3
    rw [evX_fun (m := c43) rfl _ _ _ _ H.ne0 rfl]
    simp -implicitDefEqProofs only [c43, e1, e2, e3, g1, g2, g3, g4, cg, p1, p2, p3, p4, m1, m2, m3, q1, q2, q3, hx, push_cast, Nat.reduceAdd, Nat.reduceMul, Nat.reduceSub, Nat.reduceLT, Nat.reduceLeDiff, Nat.reduceEqDiff, Nat.reducePow, Int.reduceToNat, Int.reduceLT, Int.reduceLE, Int.reduceNeg, Int.reduceEq, Int.reducePow, reduceIte, reduceCtorEq, Int.reduceMul, Int.reduceAdd, Int.reduceSub, Int.reduceMod, Int.reduceDiv, Int.reduceTDiv, Int.reduceTMod, iter_s]
  · have es : M.lock t a = M.tick t := by unfold AM.lock; rw [if_neg hx]
    rw [es]
    refine ⟨h1, ?_, H1, F1⟩
    simp only [AM.tick, AM.join] at m1 m2 m3
    rw [evX_fun (m := c43) rfl _ _ _ _ H.ne0 rfl]
    simp -implicitDefEqProofs only [c43, e1, e2, g1, g2, g3, g4, cg, p1, p2, m1, m2, m3, hx, push_cast, Nat.reduceAdd, Nat.reduceMul, Nat.reduceSub, Nat.reduceLT, Nat.reduceLeDiff, Nat.reduceEqDiff, Nat.reducePow, Int.reduceToNat, Int.reduceLT, Int.reduceLE, Int.reduceNeg, Int.reduceEq, Int.reducePow, reduceIte, reduceCtorEq, Int.reduceMul, Int.reduceAdd, Int.reduceSub, Int.reduceMod, Int.reduceDiv, Int.reduceTDiv, Int.reduceTMod, iter_s]
/-! ### Unlock -/
theorem unlock_err (k : Nat) (h : List Row) (M : AM) (row : Tg → Nat) (H : MemAt h M row) (t a : Int) (hb : t < 0 ∨ (M.n : Int) ≤ t ∨ a < 0 ∨ (M.nl : Int) ≤ a ∨ M.lo a.toNat ≠ t) :
    evF cm (k + 4) 44 [.p (row .mem) 0 0, .i t, .i a] h 0 = some (.i 2, h) := by
  have e1 := fun k => nlocks k h M row H
  by_cases h1 : 0 ≤ a
  · by_cases h2 : a < M.nl
    · obtain ⟨b, rfl⟩ : ∃ b : Nat, a = b := ⟨a.toNat, by omega⟩
      rw [Int.toNat_natCast] at hb
      have hb2 : b < M.nl := by omega
      have p2 : (prs M.nl (fun l => LV.i (M.lo l)) fun l => kn M.n (row (.lk l)) (M.lk l))[b * 2]? = some (.i (M.lo b)) := prs_fst hb2
      by_cases hx : M.lo b = t
      · have e2 := fun k => begin_err k h 0 M row H t b M.nl (by omega)
        rw [evX_fun (m := c44) rfl _ _ _ _ H.ne0 rfl]
        simp -implicitDefEqProofs only [c44, e1, e2, h1, h2, p2, H.rmem, H.rlocks, hx, push_cast, Nat.reduceAdd, Nat.reduceMul, Nat.reduceSub, Nat.reduceLT, Nat.reduceLeDiff, Nat.reduceEqDiff, Nat.reducePow, Int.reduceToNat, Int.reduceLT, Int.reduceLE, Int.reduceNeg, Int.reduceEq, Int.reducePow, reduceIte, reduceCtorEq, Int.reduceMul, Int.reduceAdd, Int.reduceSub, Int.reduceMod, Int.reduceDiv, Int.reduceTDiv, Int.reduceTMod, iter_s]
      · rw [evX_fun (m := c44) rfl _ _ _ _ H.ne0 rfl]
        simp -implicitDefEqProofs only [c44, e1, h1, h2, p2, H.rmem, H.rlocks, hx, push_cast, Nat.reduceAdd, Nat.reduceMul, Nat.reduceSub, Nat.reduceLT, Nat.reduceLeDiff, Nat.reduceEqDiff, Nat.reducePow, Int.reduceToNat, Int.reduceLT, Int.reduceLE, Int.reduceNeg, Int.reduceEq, Int.reducePow, reduceIte, reduceCtorEq, Int.reduceMul, Int.reduceAdd, Int.reduceSub, Int.reduceMod, Int.reduceDiv, Int.reduceTDiv, Int.reduceTMod, iter_s]
    · have e2 := fun k => begin_err k h 0 M row H t a M.nl (by omega)
      rw [evX_fun (m := c44) rfl _ _ _ _ H.ne0 rfl]
      simp -implicitDefEqProofs only [c44, e1, e2, h1, h2, push_cast, Nat.reduceAdd, Nat.reduceMul, Nat.reduceSub, Nat.reduceLT, Nat.reduceLeDiff, Nat.reduceEqDiff, Nat.reducePow, Int.reduceToNat, Int.reduceLT, Int.reduceLE, Int.reduceNeg, Int.reduceEq, Int.reducePow, reduceIte, reduceCtorEq, Int.reduceMul, Int.reduceAdd, Int.reduceSub, Int.reduceMod, Int.reduceDiv, Int.reduceTDiv, Int.reduceTMod, iter_s]
  · have e2 := fun k => begin_err k h 0 M row H t a M.nl (by omega)
    rw [evX_fun (m := c44) rfl _ _ _ _ H.ne0 rfl]
    simp -implicitDefEqProofs only [c44, e1, e2, h1, push_cast, Nat.reduceAdd, Nat.reduceMul, Nat.reduceSub, Nat.reduceLT, Nat.reduceLeDiff, Nat.reduceEqDiff, Nat.reducePow, Int.reduceToNat, Int.reduceLT, Int.reduceLE, Int.reduceNeg, Int.reduceEq, Int.reducePow, reduceIte, reduceCtorEq, Int.reduceMul, Int.reduceAdd, Int.reduceSub, Int.reduceMod, Int.reduceDiv, Int.reduceTDiv, Int.reduceTMod, iter_s]
theorem unlock_ok (k : Nat) (h : List Row) (M : AM) (row : Tg → Nat) (H : MemAt h M row) (t a : Nat) (ht : t < M.n) (ha : a < M.nl) (hl : M.lo a = t) (hops : M.ops < 1000000000) :
    ∃ h' row', evF cm (k + 110) 44 [.p (row .mem) 0 0, .i t, .i a] h 0 = some (.i 0, h') ∧ MemAt h' (M.unlock t a) row' ∧ row' .mem = row .mem ∧ Frm (own M row) (own (M.unlock t a) row') h h' := by
  have e1 := fun k => nlocks k h M row H
  obtain ⟨h1, e2, H1, F1⟩ := begin_ok (k + 108) h M row H t a M.nl ht ha hops
  have g1 : (t : Int) < (M.n : Int) := by omega
  have g2 : (0 : Int) ≤ (t : Int) := by omega
  have g3 : (a : Int) < (M.nl : Int) := by omega
  have g4 : (0 : Int) ≤ (a : Int) := by omega
  have cg := clks_get (row := row) ht
  have p2 : (prs M.nl (fun l => LV.i (M.lo l)) fun l => kn M.n (row (.lk l)) (M.lk l))[a * 2]? = some (.i (M.lo a)) := prs_fst ha
  have p3 := fun f g x y => prs_put (n := M.nl) (f := f) (g := g) (x := x) (y := y) ha
  have p4 : ∀ f g, a * 2 + 2 ≤ (prs M.nl f g).length := fun f g => by rw [prs_length]; omega
  have m1 := H1.rmem
  have m2 := H1.rclks
  have m3 := H1.rlocks
  have m4 := H1.rclk (t := t) ht
  have ec := fun k b => clone_iso k M.n ((M.tick t).clk t) b H.n
  have r2 : ∀ x, rowOf (h1 ++ [x]) (row .locks) 0 = rowOf h1 (row .locks) 0 := fun x => rowOf_app_lt (H1.hat.lt (τ := .locks) trivial)
  have vl : M.n ≤ (vec M.n ((M.tick t).clk t)).length := by rw [vec_length]; exact Nat.le_refl _
  generalize hck : (M.tick t).clk t = ck at *
  have m5 : rowOf h1 (row (.clk t)) 0 = some (vec M.n ck) := m4
  simp only [AM.tick] at m1 m2 m3
  rw [evX_fun (m := c44) rfl _ _ _ _ H.ne0 rfl]
  simp -implicitDefEqProofs only [c44, e1, e2, ec, g1, g2, g3, g4, cg, p2, p3, p4, m1, m2, m3, m5, r2, vl, H.rmem, H.rlocks, hl, vec_closed, vec_take, vec_noim, vec_shLs, iso_f, call_I, impF_some, flat, push_cast, Nat.reduceAdd, Nat.reduceMul, Nat.reduceSub, Nat.reduceLT, Nat.reduceLeDiff, Nat.reduceEqDiff, Nat.reducePow, Int.reduceToNat, Int.reduceLT, Int.reduceLE, Int.reduceNeg, Int.reduceEq, Int.reducePow, reduceIte, reduceCtorEq, Int.reduceMul, Int.reduceAdd, Int.reduceSub, Int.reduceMod, Int.reduceDiv, Int.reduceTDiv, Int.reduceTMod, iter_s]
  refine ⟨_, setC row (.lk a) h1.length, rfl, ?_, setC_ne _ _ (by simp), F1.trans ?_⟩
  · refine ⟨(((H1.hat.push (.lk a) _).put .locks (.inr trivial) _).cast (row' := setC row (.lk a) h1.length) (live' := live (M.unlock t a)) fun τ hτ => ⟨?_, rfl, ?_⟩), wf_unlock H.wf t a, H.n⟩
    · cases τ with
      | lk b =>
        by_cases hb : b = a
        · subst hb; exact .inl rfl
        · refine .inr ⟨hτ.1, ?_⟩
          have := hτ.2
          simp only [AM.unlock, upd_ne _ _ hb] at this; exact this
      | _ => exact .inr hτ
    · cases τ with
      | lk b =>
        by_cases hb : b = a
        · subst hb; rw [setC_ne _ _ (by simp), setC_eq]; simp [cont, AM.unlock, upd_same, hck]; rfl
        · rw [setC_ne _ _ (by simp), setC_ne _ _ (by simpa using hb)]; simp [cont, AM.unlock, upd_ne _ _ hb]; rfl
      | locks =>
        rw [setC_eq]
        simp only [cont, AM.unlock]
        refine congrArg _ (prs_congr fun i hi => ?_)
        by_cases hia : i = a
        · subst hia; simp [upd_same, setC, kn, vs]; rfl
        · simp [upd_ne _ _ hia, setC, hia]; rfl
      | _ => rfl
  · refine (Frm.push (own' := own (M.unlock t a) (setC row (.lk a) h1.length)) _ (own_push (M := M.tick t) fun τ hτ => ?_)).trans (Frm.put ⟨.locks, trivial, rfl⟩ (fun _ h => h) _)
    cases τ with
    | lk b =>
      by_cases hb : b = a
      · subst hb; exact .inl rfl
      · refine .inr ⟨hτ.1, ?_⟩
        have := hτ.2
        simp only [AM.unlock, upd_ne _ _ hb] at this; exact this
    | _ => exact .inr hτ
end Go.Proofs.Ytcmlnjkbdlakfaa
