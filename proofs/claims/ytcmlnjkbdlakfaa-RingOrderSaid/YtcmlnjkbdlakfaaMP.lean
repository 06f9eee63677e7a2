/- A memory's operations, as the evaluator answers: atoms. -/
import Derived.Test.YtcmlnjkbdlakfaaMO
set_option linter.unusedSimpArgs false
set_option linter.unusedVariables false
set_option maxRecDepth 100000
set_option maxHeartbeats 16000000
namespace Go.Proofs.Ytcmlnjkbdlakfaa
open Go
theorem clone_iso (k n : Nat) (f : Nat → Int) (b : Bool) (hn : 0 < n ∧ n ≤ 80) : evF cm (k + 1) 55 [.im (vec n f) n b] [] 0 = some (.sl 0 0 0 n 1 n, [⟨0, vec n f⟩]) := by
  rw [evH_fun (m := c55) rfl _ _ _ _ rfl]
  have g1 : ¬ n = 0 := by omega
  have g2 : n ≤ 9223372036854775807 := by omega
  have g3 : n * 8 ≤ 140737488355328 := by omega
  simp -implicitDefEqProofs only [c55, vec_length, vec_atom, g1, g2, g3, push_cast, Nat.reduceAdd, Nat.reduceMul, Nat.reduceSub, Nat.reduceLT, Nat.reduceLeDiff, Nat.reduceEqDiff, Nat.reducePow, Int.reduceToNat, Int.reduceLT, Int.reduceLE, Int.reduceNeg, Int.reduceEq, Int.reducePow, reduceIte, reduceCtorEq, Int.reduceMul, Int.reduceAdd, Int.reduceSub, Int.reduceMod, Int.reduceDiv, Int.reduceTDiv, Int.reduceTMod, iter_s]
theorem kn_none {α : Type} (n k : Nat) : kn (α := α) n k none = .nils := rfl
theorem kn_some {α : Type} (n k : Nat) (x : α) : kn n k (some x) = .sl k 0 0 n 1 n := rfl
theorem kn_atom {α : Type} (n k : Nat) (x : Option α) : atomB (kn n k x) = true := by cases x <;> rfl
/-- What is done when one is known anew: its row is new, and the row that names it turns. -/
theorem own_push {h : List Row} {M M' : AM} {row : Tg → Nat} {τ0 : Tg} (hl : ∀ τ, live M' τ → τ = τ0 ∨ live M τ) (k : Nat) (hk : own M' (setC row τ0 h.length) k) : own M row k ∨ h.length ≤ k := by
  obtain ⟨τ, h1, rfl⟩ := hk
  by_cases hτ : τ = τ0
  · subst hτ; rw [setC_eq]; exact .inr (Nat.le_refl _)
  · rw [setC_ne _ _ hτ]; exact .inl ⟨τ, (hl τ h1).resolve_left hτ, rfl⟩
theorem put_ok (k : Nat) (h : List Row) (M : AM) (row : Tg → Nat) (H : MemAt h M row) (t a : Nat) (x : Int) (ht : t < M.n) (ha : a < M.na) :
    ∃ h' row', evF cm (k + 2) 52 [.p (row .mem) 0 0, .i t, .i a, .i x] h 0 = some (.tup [], h') ∧ MemAt h' (M.put t a x) row' ∧ row' .mem = row .mem ∧ Frm (own M row) (own (M.put t a x) row') h h' := by
  have g1 : (t : Int) < (M.n : Int) := by omega
  have g2 : (0 : Int) ≤ (t : Int) := by omega
  have g3 : (a : Int) < (M.na : Int) := by omega
  have g4 : (0 : Int) ≤ (a : Int) := by omega
  have cg := clks_get (row := row) ht
  have ec := fun k b => clone_iso k M.n (M.clk t) b H.n
  have r1 := H.rclk ht
  have r2 : ∀ x, rowOf (h ++ [x]) (row .atoms) 0 = rowOf h (row .atoms) 0 := fun x => rowOf_app_lt (H.hat.lt (τ := .atoms) trivial)
  have vl : M.n ≤ (vec M.n (M.clk t)).length := by rw [vec_length]; exact Nat.le_refl _
  have pl : ∀ f g, a * 2 + 2 ≤ (prs M.na f g).length := fun f g => by rw [prs_length]; omega
  have pp := fun f g x y => prs_put (n := M.na) (f := f) (g := g) (x := x) (y := y) ha
  rw [evX_fun (m := c52) rfl _ _ _ _ H.ne0 rfl]
  simp -implicitDefEqProofs only [c52, g1, g2, g3, g4, cg, ec, r1, r2, vl, pl, pp, H.rmem, H.rclks, H.ratoms, vec_closed, vec_take, vec_noim, vec_shLs, iso_f, call_I, impF_some, flat, push_cast, Nat.reduceAdd, Nat.reduceMul, Nat.reduceSub, Nat.reduceLT, Nat.reduceLeDiff, Nat.reduceEqDiff, Nat.reducePow, Int.reduceToNat, Int.reduceLT, Int.reduceLE, Int.reduceNeg, Int.reduceEq, Int.reducePow, reduceIte, reduceCtorEq, Int.reduceMul, Int.reduceAdd, Int.reduceSub, Int.reduceMod, Int.reduceDiv, Int.reduceTDiv, Int.reduceTMod, iter_s]
  refine ⟨_, setC row (.ak a) h.length, rfl, ?_, setC_ne _ _ (by simp), ?_⟩
  · refine ⟨(((H.hat.push (.ak a) _).put .atoms (.inr trivial) _).cast (row' := setC row (.ak a) h.length) (live' := live (M.put t a x)) fun τ hτ => ⟨?_, rfl, ?_⟩), wf_put H.wf t a x, H.n⟩
    · cases τ with
      | ak b =>
        by_cases hb : b = a
        · subst hb; exact .inl rfl
        · refine .inr ⟨hτ.1, ?_⟩
          have := hτ.2
          simp only [AM.put, upd_ne _ _ hb] at this; exact this
      | _ => exact .inr hτ
    · cases τ with
      | ak b =>
        by_cases hb : b = a
        · subst hb; rw [setC_ne _ _ (by simp), setC_eq]; simp [cont, AM.put, upd_same]
        · rw [setC_ne _ _ (by simp), setC_ne _ _ (by simpa using hb)]; simp [cont, AM.put, upd_ne _ _ hb]
      | atoms =>
        rw [setC_eq]
        simp only [cont, AM.put]
        refine congrArg _ (prs_congr fun i hi => ?_)
        by_cases hia : i = a
        · subst hia; simp [upd_same, setC, kn, vs]
        · simp [upd_ne _ _ hia, setC, hia]
      | _ => rfl
  · refine (Frm.push (own' := own (M.put t a x) (setC row (.ak a) h.length)) _ (own_push fun τ hτ => ?_)).trans (Frm.put ⟨.atoms, trivial, rfl⟩ (fun _ h => h) _)
    cases τ with
    | ak b =>
      by_cases hb : b = a
      · subst hb; exact .inl rfl
      · refine .inr ⟨hτ.1, ?_⟩
        have := hτ.2
        simp only [AM.put, upd_ne _ _ hb] at this; exact this
    | _ => exact .inr hτ
theorem join_own {M : AM} {row : Tg → Nat} {t : Nat} {k : Option (Nat → Int)} (j : Nat) (hj : own (M.join t k) row j) : own M row j := by
  obtain ⟨τ, h1, h2⟩ := hj
  exact ⟨τ, by cases τ <;> exact h1, h2⟩
theorem mem_join (k : Nat) (h : List Row) (M : AM) (row : Tg → Nat) (H : MemAt h M row) (t b : Nat) (ht : t < M.n) (o : Option (Nat → Int)) (hk : ∀ f, o = some f → rowOf h b 0 = some (vec M.n f) ∧ row (.clk t) ≠ b ∧ ∀ u, 0 ≤ f u ∧ f u ≤ M.ops) :
    ∃ h', evF cm (k + 100) 51 [.sl (row (.clk t)) 0 0 M.n 1 M.n, kn M.n b o] h 0 = some (.tup [], h') ∧ MemAt h' (M.join t o) row ∧ Frm (own M row) (own (M.join t o) row) h h' := by
  have hwf : (M.join t o).WF := wf_join H.wf t fun f hf => (hk f hf).2.2
  cases o with
  | none =>
    refine ⟨h, join_nil (k + 97) h _ H.ne0, ⟨H.hat.cast fun τ hτ => ?_, hwf, H.n⟩, Frm.same' fun j hj => join_own j hj⟩
    cases τ with
    | clk s =>
      refine ⟨hτ, rfl, ?_⟩
      by_cases hs : s = t
      · subst hs; simp [cont, AM.join, upd_same, jn]
      · simp [cont, AM.join, upd_ne _ _ hs]
    | _ => exact ⟨hτ, rfl, rfl⟩
  | some f =>
    obtain ⟨h1, h2, h3⟩ := hk f rfl
    refine ⟨_, join_ok k h (row (.clk t)) b M.n (M.clk t) f h2 (H.rclk ht) h1 H.n.2, ⟨(H.hat.put (.clk t) ht _).cast fun τ hτ => ?_, hwf, H.n⟩, Frm.put ⟨.clk t, ht, rfl⟩ (fun j hj => join_own j hj) _⟩
    cases τ with
    | clk s =>
      refine ⟨hτ, rfl, ?_⟩
      by_cases hs : s = t
      · subst hs; rw [setC_eq]; simp [cont, AM.join, upd_same]
      · rw [setC_ne _ _ (by simpa using hs)]; simp [cont, AM.join, upd_ne _ _ hs]
    | _ => exact ⟨hτ, rfl, rfl⟩
/-! ### Load -/
theorem load_err (k : Nat) (h : List Row) (M : AM) (row : Tg → Nat) (H : MemAt h M row) (t a : Int) (hb : t < 0 ∨ (M.n : Int) ≤ t ∨ a < 0 ∨ (M.na : Int) ≤ a) :
    evF cm (k + 4) 35 [.p (row .mem) 0 0, .i t, .i a] h 0 = some (.tup [.i 0, .i 2], h) := by
  have e1 := fun k => natoms k h M row H
  have e2 := fun k => begin_err k h 0 M row H t a M.na hb
  rw [evX_fun (m := c35) rfl _ _ _ _ H.ne0 rfl]
  simp -implicitDefEqProofs only [c35, e1, e2, push_cast, Nat.reduceAdd, Nat.reduceMul, Nat.reduceSub, Nat.reduceLT, Nat.reduceLeDiff, Nat.reduceEqDiff, Nat.reducePow, Int.reduceToNat, Int.reduceLT, Int.reduceLE, Int.reduceNeg, Int.reduceEq, Int.reducePow, reduceIte, reduceCtorEq, Int.reduceMul, Int.reduceAdd, Int.reduceSub, Int.reduceMod, Int.reduceDiv, Int.reduceTDiv, Int.reduceTMod, iter_s]
theorem load_ok (k : Nat) (h : List Row) (M : AM) (row : Tg → Nat) (H : MemAt h M row) (t a : Nat) (ht : t < M.n) (ha : a < M.na) (hops : M.ops < 1000000000) :
    ∃ h', evF cm (k + 110) 35 [.p (row .mem) 0 0, .i t, .i a] h 0 = some (.tup [.i (M.av a), .i 0], h') ∧ MemAt h' (M.load t a) row ∧ Frm (own M row) (own (M.load t a) row) h h' := by
  have e1 := fun k => natoms k h M row H
  obtain ⟨h1, e2, H1, F1⟩ := begin_ok (k + 108) h M row H t a M.na ht ha hops
  obtain ⟨h2, e3, H2, F2⟩ := mem_join (k + 9) h1 (M.tick t) row H1 t (row (.ak a)) ht (M.ak a) (fun f hf => ⟨H1.rak (M := M.tick t) ha hf, H1.hat.ne (τ := .clk t) (τ' := .ak a) ht ⟨ha, by show M.ak a ≠ none; rw [hf]; simp⟩ (by simp), fun u => H1.wf.ak a f hf u⟩)
  refine ⟨h2, ?_, H2, F1.trans F2⟩
  have g1 : (t : Int) < (M.n : Int) := by omega
  have g2 : (0 : Int) ≤ (t : Int) := by omega
  have g3 : (a : Int) < (M.na : Int) := by omega
  have g4 : (0 : Int) ≤ (a : Int) := by omega
  have cg := clks_get (row := row) ht
  have p1 : (prs M.na (fun a => LV.i (M.av a)) fun a => kn M.n (row (.ak a)) (M.ak a))[a * 2 + 1]? = some (kn M.n (row (.ak a)) (M.ak a)) := prs_snd ha
  have p2 : (prs M.na (fun a => LV.i (M.av a)) fun a => kn M.n (row (.ak a)) (M.ak a))[a * 2]? = some (.i (M.av a)) := prs_fst ha
  have m1 := H1.rmem
  have m2 := H1.rclks
  have m3 := H1.ratoms
  have m4 := H2.rmem
  have m5 := H2.ratoms
  simp only [AM.tick, AM.join] at m1 m2 m3 m4 m5 e3
  rw [evX_fun (m := c35) rfl _ _ _ _ H.ne0 rfl]
  simp -implicitDefEqProofs only [c35, e1, e2, e3, g1, g2, g3, g4, cg, p1, p2, m1, m2, m3, m4, m5, push_cast, Nat.reduceAdd, Nat.reduceMul, Nat.reduceSub, Nat.reduceLT, Nat.reduceLeDiff, Nat.reduceEqDiff, Nat.reducePow, Int.reduceToNat, Int.reduceLT, Int.reduceLE, Int.reduceNeg, Int.reduceEq, Int.reducePow, reduceIte, reduceCtorEq, Int.reduceMul, Int.reduceAdd, Int.reduceSub, Int.reduceMod, Int.reduceDiv, Int.reduceTDiv, Int.reduceTMod, iter_s]
/-! ### Store -/
theorem store_err (k : Nat) (h : List Row) (M : AM) (row : Tg → Nat) (H : MemAt h M row) (t a x : Int) (hb : t < 0 ∨ (M.n : Int) ≤ t ∨ a < 0 ∨ (M.na : Int) ≤ a) :
    evF cm (k + 4) 39 [.p (row .mem) 0 0, .i t, .i a, .i x] h 0 = some (.i 2, h) := by
  have e1 := fun k => natoms k h M row H
  have e2 := fun k => begin_err k h 0 M row H t a M.na hb
  rw [evX_fun (m := c39) rfl _ _ _ _ H.ne0 rfl]
  simp -implicitDefEqProofs only [c39, e1, e2, push_cast, Nat.reduceAdd, Nat.reduceMul, Nat.reduceSub, Nat.reduceLT, Nat.reduceLeDiff, Nat.reduceEqDiff, Nat.reducePow, Int.reduceToNat, Int.reduceLT, Int.reduceLE, Int.reduceNeg, Int.reduceEq, Int.reducePow, reduceIte, reduceCtorEq, Int.reduceMul, Int.reduceAdd, Int.reduceSub, Int.reduceMod, Int.reduceDiv, Int.reduceTDiv, Int.reduceTMod, iter_s]
theorem store_ok (k : Nat) (h : List Row) (M : AM) (row : Tg → Nat) (H : MemAt h M row) (t a : Nat) (x : Int) (ht : t < M.n) (ha : a < M.na) (hops : M.ops < 1000000000) :
    ∃ h' row', evF cm (k + 110) 39 [.p (row .mem) 0 0, .i t, .i a, .i x] h 0 = some (.i 0, h') ∧ MemAt h' (M.store t a x) row' ∧ row' .mem = row .mem ∧ Frm (own M row) (own (M.store t a x) row') h h' := by
  have e1 := fun k => natoms k h M row H
  obtain ⟨h1, e2, H1, F1⟩ := begin_ok (k + 108) h M row H t a M.na ht ha hops
  obtain ⟨h2, row', e3, H2, hr, F2⟩ := put_ok (k + 107) h1 (M.tick t) row H1 t a x ht ha
  refine ⟨h2, row', ?_, H2, hr, F1.trans F2⟩
  rw [evX_fun (m := c39) rfl _ _ _ _ H.ne0 rfl]
  simp -implicitDefEqProofs only [c39, e1, e2, e3, push_cast, Nat.reduceAdd, Nat.reduceMul, Nat.reduceSub, Nat.reduceLT, Nat.reduceLeDiff, Nat.reduceEqDiff, Nat.reducePow, Int.reduceToNat, Int.reduceLT, Int.reduceLE, Int.reduceNeg, Int.reduceEq, Int.reducePow, reduceIte, reduceCtorEq, Int.reduceMul, Int.reduceAdd, Int.reduceSub, Int.reduceMod, Int.reduceDiv, Int.reduceTDiv, Int.reduceTMod, iter_s]
/-! ### Swap -/
/-! ### Add -/
theorem add_err (k : Nat) (h : List Row) (M : AM) (row : Tg → Nat) (H : MemAt h M row) (t a x : Int) (hb : t < 0 ∨ (M.n : Int) ≤ t ∨ a < 0 ∨ (M.na : Int) ≤ a) :
    evF cm (k + 4) 45 [.p (row .mem) 0 0, .i t, .i a, .i x] h 0 = some (.tup [.i 0, .i 2], h) := by
  have e1 := fun k => natoms k h M row H
  have e2 := fun k => begin_err k h 0 M row H t a M.na hb
  rw [evX_fun (m := c45) rfl _ _ _ _ H.ne0 rfl]
  simp -implicitDefEqProofs only [c45, e1, e2, push_cast, Nat.reduceAdd, Nat.reduceMul, Nat.reduceSub, Nat.reduceLT, Nat.reduceLeDiff, Nat.reduceEqDiff, Nat.reducePow, Int.reduceToNat, Int.reduceLT, Int.reduceLE, Int.reduceNeg, Int.reduceEq, Int.reducePow, reduceIte, reduceCtorEq, Int.reduceMul, Int.reduceAdd, Int.reduceSub, Int.reduceMod, Int.reduceDiv, Int.reduceTDiv, Int.reduceTMod, iter_s]
theorem add_ok (k : Nat) (h : List Row) (M : AM) (row : Tg → Nat) (H : MemAt h M row) (t a : Nat) (x y : Int) (hy : IntKind.i64.wrap (M.av a + x) = y) (ht : t < M.n) (ha : a < M.na) (hops : M.ops < 1000000000) :
    ∃ h' row', evF cm (k + 110) 45 [.p (row .mem) 0 0, .i t, .i a, .i x] h 0 = some (.tup [.i y, .i 0], h') ∧ MemAt h' (M.add t a y) row' ∧ row' .mem = row .mem ∧ Frm (own M row) (own (M.add t a y) row') h h' := by
  have e1 := fun k => natoms k h M row H
  obtain ⟨h1, e2, H1, F1⟩ := begin_ok (k + 108) h M row H t a M.na ht ha hops
  obtain ⟨h2, e3, H2, F2⟩ := mem_join (k + 9) h1 (M.tick t) row H1 t (row (.ak a)) ht (M.ak a) (fun f hf => ⟨H1.rak (M := M.tick t) ha hf, H1.hat.ne (τ := .clk t) (τ' := .ak a) ht ⟨ha, by show M.ak a ≠ none; rw [hf]; simp⟩ (by simp), fun u => H1.wf.ak a f hf u⟩)
  obtain ⟨h3, row', e4, H3, hr, F3⟩ := put_ok (k + 107) h2 (M.load t a) row H2 t a y ht ha
  refine ⟨h3, row', ?_, H3, hr, (F1.trans F2).trans F3⟩
  have g1 : (t : Int) < (M.n : Int) := by omega
  have g2 : (0 : Int) ≤ (t : Int) := by omega
  have g3 : (a : Int) < (M.na : Int) := by omega
  have g4 : (0 : Int) ≤ (a : Int) := by omega
  have cg := clks_get (row := row) ht
  have p1 : (prs M.na (fun a => LV.i (M.av a)) fun a => kn M.n (row (.ak a)) (M.ak a))[a * 2 + 1]? = some (kn M.n (row (.ak a)) (M.ak a)) := prs_snd ha
  have p2 : (prs M.na (fun a => LV.i (M.av a)) fun a => kn M.n (row (.ak a)) (M.ak a))[a * 2]? = some (.i (M.av a)) := prs_fst ha
  have m1 := H1.rmem
  have m2 := H1.rclks
  have m3 := H1.ratoms
  have m4 := H2.rmem
  have m5 := H2.ratoms
  have m6 := H3.rmem
  have m7 := H3.ratoms
  rw [hr] at m6
  have p3 : (prs M.na (fun b => LV.i (upd M.av a y b)) fun b => kn M.n (row' (.ak b)) (upd (M.load t a).ak a (some ((M.load t a).clk t)) b))[a * 2]? = some (.i y) := by rw [prs_fst ha, upd_same]
  simp only [AM.tick, AM.join] at m1 m2 m3 m4 m5 e3
  simp only [AM.put, AM.load, AM.join, AM.tick] at m6 m7 p3
  rw [evX_fun (m := c45) rfl _ _ _ _ H.ne0 rfl]
  simp -implicitDefEqProofs only [c45, e1, e2, e3, e4, g1, g2, g3, g4, cg, p1, p2, p3, m1, m2, m3, m4, m5, m6, m7, hy, push_cast, Nat.reduceAdd, Nat.reduceMul, Nat.reduceSub, Nat.reduceLT, Nat.reduceLeDiff, Nat.reduceEqDiff, Nat.reducePow, Int.reduceToNat, Int.reduceLT, Int.reduceLE, Int.reduceNeg, Int.reduceEq, Int.reducePow, reduceIte, reduceCtorEq, Int.reduceMul, Int.reduceAdd, Int.reduceSub, Int.reduceMod, Int.reduceDiv, Int.reduceTDiv, Int.reduceTMod, iter_s]
end Go.Proofs.Ytcmlnjkbdlakfaa
