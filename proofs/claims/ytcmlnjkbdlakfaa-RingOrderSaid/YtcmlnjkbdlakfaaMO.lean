/- Small steps of a memory's operations, as the evaluator answers. -/
import Derived.Test.YtcmlnjkbdlakfaaHM
import Derived.Test.YtcmlnjkbdlakfaaC32
set_option linter.unusedSimpArgs false
set_option linter.unusedVariables false
set_option maxRecDepth 100000
set_option maxHeartbeats 16000000
namespace Go.Proofs.Ytcmlnjkbdlakfaa
open Go
/-! ### an operation begins -/
theorem begin_err (k : Nat) (h : List Row) (lim : Nat) (M : AM) (row : Tg → Nat) (H : MemAt h M row) (t a : Int) (m : Nat) (hb : t < 0 ∨ (M.n : Int) ≤ t ∨ a < 0 ∨ (m : Int) ≤ a) :
    evF cm (k + 1) 46 [.p (row .mem) 0 0, .i t, .i a, .i m] h lim = some (.i 2, h) := by
  rw [evX_fun (m := c46) rfl _ _ _ _ H.ne0 rfl]
  by_cases h1 : t < 0
  · simp -implicitDefEqProofs only [c46, h1, H.rmem, push_cast, Nat.reduceAdd, Nat.reduceMul, Nat.reduceSub, Nat.reduceLT, Nat.reduceLeDiff, Nat.reduceEqDiff, Nat.reducePow, Int.reduceToNat, Int.reduceLT, Int.reduceLE, Int.reduceNeg, Int.reduceEq, Int.reducePow, reduceIte, reduceCtorEq, Int.reduceMul, Int.reduceAdd, Int.reduceSub, Int.reduceMod, Int.reduceDiv, Int.reduceTDiv, Int.reduceTMod, iter_s]
  · by_cases h2 : (M.n : Int) ≤ t
    · simp -implicitDefEqProofs only [c46, h1, h2, H.rmem, push_cast, Nat.reduceAdd, Nat.reduceMul, Nat.reduceSub, Nat.reduceLT, Nat.reduceLeDiff, Nat.reduceEqDiff, Nat.reducePow, Int.reduceToNat, Int.reduceLT, Int.reduceLE, Int.reduceNeg, Int.reduceEq, Int.reducePow, reduceIte, reduceCtorEq, Int.reduceMul, Int.reduceAdd, Int.reduceSub, Int.reduceMod, Int.reduceDiv, Int.reduceTDiv, Int.reduceTMod, iter_s]
    · by_cases h3 : a < 0
      · simp -implicitDefEqProofs only [c46, h1, h2, h3, H.rmem, push_cast, Nat.reduceAdd, Nat.reduceMul, Nat.reduceSub, Nat.reduceLT, Nat.reduceLeDiff, Nat.reduceEqDiff, Nat.reducePow, Int.reduceToNat, Int.reduceLT, Int.reduceLE, Int.reduceNeg, Int.reduceEq, Int.reducePow, reduceIte, reduceCtorEq, Int.reduceMul, Int.reduceAdd, Int.reduceSub, Int.reduceMod, Int.reduceDiv, Int.reduceTDiv, Int.reduceTMod, iter_s]
      · have h4 : (m : Int) ≤ a := by omega
        simp -implicitDefEqProofs only [c46, h1, h2, h3, h4, H.rmem, push_cast, Nat.reduceAdd, Nat.reduceMul, Nat.reduceSub, Nat.reduceLT, Nat.reduceLeDiff, Nat.reduceEqDiff, Nat.reducePow, Int.reduceToNat, Int.reduceLT, Int.reduceLE, Int.reduceNeg, Int.reduceEq, Int.reducePow, reduceIte, reduceCtorEq, Int.reduceMul, Int.reduceAdd, Int.reduceSub, Int.reduceMod, Int.reduceDiv, Int.reduceTDiv, Int.reduceTMod, iter_s]
theorem begin_ok (k : Nat) (h : List Row) (M : AM) (row : Tg → Nat) (H : MemAt h M row) (t a m : Nat) (ht : t < M.n) (ha : a < m) (hops : M.ops < 1000000000) :
    ∃ h', evF cm (k + 1) 46 [.p (row .mem) 0 0, .i t, .i a, .i m] h 0 = some (.i 0, h') ∧ MemAt h' (M.tick t) row ∧ Frm (own M row) (own (M.tick t) row) h h' := by
  have g1 : ¬ (t : Int) < 0 := by omega
  have g2 : ¬ (M.n : Int) ≤ t := by omega
  have g3 : ¬ (a : Int) < 0 := by omega
  have g4 : ¬ (m : Int) ≤ a := by omega
  have g5 : (t : Int) < (M.n : Int) := by omega
  have g6 : (0 : Int) ≤ (t : Int) := by omega
  have hw := H.wf.clk t t
  have ho := H.wf.ops
  have w1 : IntKind.i64.wrap (M.ops + 1) = M.ops + 1 := w64 _ (by omega) (by omega)
  have w2 : IntKind.i64.wrap (M.clk t t + 1) = M.clk t t + 1 := w64 _ (by omega) (by omega)
  have n1 : row .mem ≠ row .clks := H.hat.ne (τ := .mem) (τ' := .clks) trivial trivial (by simp)
  have n2 : row .mem ≠ row (.clk t) := H.hat.ne (τ := .mem) (τ' := .clk t) trivial ht (by simp)
  have r1 := H.lmem
  have s1 : ∀ x, rowOf (h.set (row .mem) x) (row .clks) (M.n - 1) = rowOf h (row .clks) (M.n - 1) := fun x => rowOf_set_ne n1
  have s2 : ∀ x, rowOf (h.set (row .mem) x) (row (.clk t)) 0 = rowOf h (row (.clk t)) 0 := fun x => rowOf_set_ne n2
  have s3 : ∀ cs, rowOf (h.set (row .mem) ⟨0, cs⟩) (row .mem) 0 = some cs := fun cs => rowOf_set_eq r1
  have cg := clks_get (row := row) ht
  have vg := vec_get (f := M.clk t) ht
  have vp := vput (f := M.clk t) (x := M.clk t t + 1) ht
  have vl : t + 1 ≤ (vec M.n (M.clk t)).length := by rw [vec_length]; omega
  rw [evX_fun (m := c46) rfl _ _ _ _ H.ne0 rfl]
  simp -implicitDefEqProofs only [c46, g1, g2, g3, g4, g5, g6, w1, w2, s1, s2, s3, H.rmem, H.rclks, H.rclk ht, cg, vg, vp, vl, push_cast, Nat.reduceAdd, Nat.reduceMul, Nat.reduceSub, Nat.reduceLT, Nat.reduceLeDiff, Nat.reduceEqDiff, Nat.reducePow, Int.reduceToNat, Int.reduceLT, Int.reduceLE, Int.reduceNeg, Int.reduceEq, Int.reducePow, reduceIte, reduceCtorEq, Int.reduceMul, Int.reduceAdd, Int.reduceSub, Int.reduceMod, Int.reduceDiv, Int.reduceTDiv, Int.reduceTMod, iter_s]
  refine ⟨_, rfl, ?_, ?_⟩
  · refine ⟨((H.hat.put .mem trivial _).put (.clk t) ht _).cast fun τ hτ => ?_, wf_tick H.wf t, H.n⟩
    cases τ with
    | clk s =>
      by_cases hs : s = t
      · subst hs; refine ⟨hτ, rfl, ?_⟩; rw [setC_eq]; simp [cont, AM.tick, upd_same]
      · refine ⟨hτ, rfl, ?_⟩; rw [setC_ne _ _ (by simpa using hs), setC_ne _ _ (by simp)]; simp [cont, AM.tick, upd_ne _ _ hs]
    | _ => exact ⟨hτ, rfl, rfl⟩
  · exact (Frm.put (own' := own M row) ⟨.mem, trivial, rfl⟩ (fun _ h => h) _).trans (Frm.put ⟨.clk t, ht, rfl⟩ tick_own _)
/-! ### how many places -/
theorem natoms (k : Nat) (h : List Row) (M : AM) (row : Tg → Nat) (H : MemAt h M row) : evF cm (k + 2) 49 [.p (row .mem) 0 0, .f 50 []] h 0 = some (.i M.na, h) := by
  have e : ∀ k, evF cm (k + 1) 50 [.p (row .mem) 0 0] h 0 = some (.sl (row .atoms) 0 0 M.na 2 M.na, h) := fun k => by
    rw [evH_fun (m := c50) rfl _ _ _ _ rfl]
    simp -implicitDefEqProofs only [c50, H.rmem, push_cast, Nat.reduceAdd, Nat.reduceMul, Nat.reduceSub, Nat.reduceLT, Nat.reduceLeDiff, Nat.reduceEqDiff, Nat.reducePow, Int.reduceToNat, Int.reduceLT, Int.reduceLE, Int.reduceNeg, Int.reduceEq, Int.reducePow, reduceIte, reduceCtorEq, Int.reduceMul, Int.reduceAdd, Int.reduceSub, Int.reduceMod, Int.reduceDiv, Int.reduceTDiv, Int.reduceTMod, iter_s]
  rw [evX_fun (m := c49) rfl _ _ _ _ H.ne0 rfl]
  simp -implicitDefEqProofs only [c49, call_S, e, push_cast, Nat.reduceAdd, Nat.reduceMul, Nat.reduceSub, Nat.reduceLT, Nat.reduceLeDiff, Nat.reduceEqDiff, Nat.reducePow, Int.reduceToNat, Int.reduceLT, Int.reduceLE, Int.reduceNeg, Int.reduceEq, Int.reducePow, reduceIte, reduceCtorEq, Int.reduceMul, Int.reduceAdd, Int.reduceSub, Int.reduceMod, Int.reduceDiv, Int.reduceTDiv, Int.reduceTMod, iter_s]
theorem nplains (k : Nat) (h : List Row) (M : AM) (row : Tg → Nat) (H : MemAt h M row) : evF cm (k + 2) 47 [.p (row .mem) 0 0, .f 48 []] h 0 = some (.i M.np, h) := by
  have e : ∀ k, evF cm (k + 1) 48 [.p (row .mem) 0 0] h 0 = some (.sl (row .plains) 0 0 M.np 2 M.np, h) := fun k => by
    rw [evH_fun (m := c48) rfl _ _ _ _ rfl]
    simp -implicitDefEqProofs only [c48, H.rmem, push_cast, Nat.reduceAdd, Nat.reduceMul, Nat.reduceSub, Nat.reduceLT, Nat.reduceLeDiff, Nat.reduceEqDiff, Nat.reducePow, Int.reduceToNat, Int.reduceLT, Int.reduceLE, Int.reduceNeg, Int.reduceEq, Int.reducePow, reduceIte, reduceCtorEq, Int.reduceMul, Int.reduceAdd, Int.reduceSub, Int.reduceMod, Int.reduceDiv, Int.reduceTDiv, Int.reduceTMod, iter_s]
  rw [evX_fun (m := c47) rfl _ _ _ _ H.ne0 rfl]
  simp -implicitDefEqProofs only [c47, call_S, e, push_cast, Nat.reduceAdd, Nat.reduceMul, Nat.reduceSub, Nat.reduceLT, Nat.reduceLeDiff, Nat.reduceEqDiff, Nat.reducePow, Int.reduceToNat, Int.reduceLT, Int.reduceLE, Int.reduceNeg, Int.reduceEq, Int.reducePow, reduceIte, reduceCtorEq, Int.reduceMul, Int.reduceAdd, Int.reduceSub, Int.reduceMod, Int.reduceDiv, Int.reduceTDiv, Int.reduceTMod, iter_s]
theorem nlocks (k : Nat) (h : List Row) (M : AM) (row : Tg → Nat) (H : MemAt h M row) : evF cm (k + 2) 53 [.p (row .mem) 0 0, .f 54 []] h 0 = some (.i M.nl, h) := by
  have e : ∀ k, evF cm (k + 1) 54 [.p (row .mem) 0 0] h 0 = some (.sl (row .locks) 0 0 M.nl 2 M.nl, h) := fun k => by
    rw [evH_fun (m := c54) rfl _ _ _ _ rfl]
    simp -implicitDefEqProofs only [c54, H.rmem, push_cast, Nat.reduceAdd, Nat.reduceMul, Nat.reduceSub, Nat.reduceLT, Nat.reduceLeDiff, Nat.reduceEqDiff, Nat.reducePow, Int.reduceToNat, Int.reduceLT, Int.reduceLE, Int.reduceNeg, Int.reduceEq, Int.reducePow, reduceIte, reduceCtorEq, Int.reduceMul, Int.reduceAdd, Int.reduceSub, Int.reduceMod, Int.reduceDiv, Int.reduceTDiv, Int.reduceTMod, iter_s]
  rw [evX_fun (m := c53) rfl _ _ _ _ H.ne0 rfl]
  simp -implicitDefEqProofs only [c53, call_S, e, push_cast, Nat.reduceAdd, Nat.reduceMul, Nat.reduceSub, Nat.reduceLT, Nat.reduceLeDiff, Nat.reduceEqDiff, Nat.reducePow, Int.reduceToNat, Int.reduceLT, Int.reduceLE, Int.reduceNeg, Int.reduceEq, Int.reducePow, reduceIte, reduceCtorEq, Int.reduceMul, Int.reduceAdd, Int.reduceSub, Int.reduceMod, Int.reduceDiv, Int.reduceTDiv, Int.reduceTMod, iter_s]
/-! ### what is known is joined -/
theorem tl23 {T : List LV} (h : T.length = 23) : T = [getT T 0, getT T 1, getT T 2, getT T 3, getT T 4, getT T 5, getT T 6, getT T 7, getT T 8, getT T 9, getT T 10, getT T 11, getT T 12, getT T 13, getT T 14, getT T 15, getT T 16, getT T 17, getT T 18, getT T 19, getT T 20, getT T 21, getT T 22] := tlT h
def fgJ : List Nat := [22, 21, 20, 19, 18, 17, 16, 15, 14, 13, 12, 11, 10, 9]
def jnI (f g : Nat → Int) (i : Nat) : Nat → Int := fun u => if u < i then jn f (some g) u else f u
def SJ (h : List Row) (a b n : Nat) (f g : Nat → Int) (i : Nat) (s : St) : Prop := ∃ T, s = (T, h.set a ⟨0, vec n (jnI f g i)⟩) ∧ T.length = 23 ∧ getT T 0 = .sl a 0 0 n 1 n ∧ getT T 6 = .sl b 0 0 n 1 n ∧ getT T 7 = .i n ∧ getT T 8 = .i i
theorem join_round (K : Nat) (h : List Row) (a b n : Nat) (f g : Nat → Int) (hab : a ≠ b) (ha : a < h.length) (hb : rowOf h b 0 = some (vec n g)) (hn : n ≤ 80) (i : Nat) (s : St) (hi : i < n) (hs : SJ h a b n f g i s) :
    ∃ s', evCode (evF cm K) K 0 c51b0 (cleanN fgJ s) = some (.nrm, s') ∧ SJ h a b n f g (i + 1) s' := by
  obtain ⟨T, rfl, ht, t0, t6, t7, t8⟩ := hs
  rw [tl23 ht]
  have g1 : (i : Int) < (n : Int) := by omega
  have g2 : (0 : Int) ≤ (i : Int) := by omega
  have w1 : IntKind.i64.wrap ((i : Int) + 1) = ((i + 1 : Nat) : Int) := by rw [w64 _ (by omega) (by omega)]; rfl
  have r1 : ∀ x, rowOf (h.set a x) b 0 = some (vec n g) := fun x => by rw [rowOf_set_ne hab]; exact hb
  have r2 : ∀ cs, rowOf (h.set a ⟨0, cs⟩) a 0 = some cs := fun cs => rowOf_set_eq ha
  have v1 := vec_get (f := g) hi
  have v2 := vec_get (f := jnI f g i) hi
  have v3 := fun x => vput (f := jnI f g i) (x := x) hi
  have v4 : i + 1 ≤ (vec n (jnI f g i)).length := by rw [vec_length]; omega
  simp -implicitDefEqProofs only [c51b0, fgJ, t0, t6, t7, t8, g1, g2, w1, r1, r2, v1, v2, v3, v4, List.set_set, push_cast, Nat.reduceAdd, Nat.reduceMul, Nat.reduceSub, Nat.reduceLT, Nat.reduceLeDiff, Nat.reduceEqDiff, Nat.reducePow, Int.reduceToNat, Int.reduceLT, Int.reduceLE, Int.reduceNeg, Int.reduceEq, Int.reducePow, reduceIte, reduceCtorEq, Int.reduceMul, Int.reduceAdd, Int.reduceSub, Int.reduceMod, Int.reduceDiv, Int.reduceTDiv, Int.reduceTMod, iter_s]
  refine ⟨_, rfl, _, Prod.ext rfl ?_, rfl, rfl, rfl, rfl, rfl⟩
  refine congrArg (fun x => h.set a ⟨0, x⟩) (vec_congr fun u hu => ?_)
  by_cases hui : u = i
  · subst hui; simp [jnI, jn, upd_same]
  · rw [upd_ne _ _ hui]; unfold jnI
    by_cases hlt : u < i
    · rw [if_pos hlt, if_pos (by omega)]
    · rw [if_neg hlt, if_neg (by omega)]
theorem join_last (K : Nat) (h : List Row) (a b n : Nat) (f g : Nat → Int) (s : St) (hs : SJ h a b n f g n s) :
    ∃ s', evCode (evF cm K) K 0 c51b0 (cleanN fgJ s) = some (.exit 0, s') ∧ SJ h a b n f g n s' := by
  obtain ⟨T, rfl, ht, t0, t6, t7, t8⟩ := hs
  rw [tl23 ht]
  have g1 : ¬ (n : Int) < (n : Int) := by omega
  simp -implicitDefEqProofs only [c51b0, fgJ, t0, t6, t7, t8, g1, push_cast, Nat.reduceAdd, Nat.reduceMul, Nat.reduceSub, Nat.reduceLT, Nat.reduceLeDiff, Nat.reduceEqDiff, Nat.reducePow, Int.reduceToNat, Int.reduceLT, Int.reduceLE, Int.reduceNeg, Int.reduceEq, Int.reducePow, reduceIte, reduceCtorEq, Int.reduceMul, Int.reduceAdd, Int.reduceSub, Int.reduceMod, Int.reduceDiv, Int.reduceTDiv, Int.reduceTMod, iter_s]
  exact ⟨_, rfl, _, rfl, rfl, rfl, rfl, rfl, rfl⟩
theorem join_ok (k : Nat) (h : List Row) (a b n : Nat) (f g : Nat → Int) (hab : a ≠ b) (ha : rowOf h a 0 = some (vec n f)) (hb : rowOf h b 0 = some (vec n g)) (hn : n ≤ 80) :
    evF cm (k + 100) 51 [.sl a 0 0 n 1 n, .sl b 0 0 n 1 n] h 0 = some (.tup [], h.set a ⟨0, vec n (jn f (some g))⟩) := by
  have hal := rowOf_lt ha
  rw [evX_fun (m := c51) rfl _ _ _ _ (by cases h with | nil => simp at hal | cons _ _ => rfl) rfl]
  have e0 : h = h.set a ⟨0, vec n (jnI f g 0)⟩ := by
    refine (set_self ?_).symm
    rw [at_rowOf ha]
    congr 3
  have key : ∀ s I, iter (evCode (evF cm (k + 99)) (k + 99) 0 c51b0) (cleanN fgJ) (k + 99) s = I → SJ h a b n f g 0 s → ∃ T, I = some (.exit 0, (T, h.set a ⟨0, vec n (jn f (some g))⟩)) ∧ T.length = 23 := by
    intro s I hI hs
    obtain ⟨s', h1, T, rfl, h3, _⟩ := iter_count (fun i s hi hs => join_round (k + 99) h a b n f g hab hal hb hn i s hi hs) (fun s hs => join_last (k + 99) h a b n f g s hs) n 0 s (k + 99) (by omega) (by omega) hs
    refine ⟨T, ?_, h3⟩
    rw [← hI, h1]
    rw [vec_congr (g := jn f (some g)) fun u hu => by unfold jnI; rw [if_pos hu]]
  simp -implicitDefEqProofs only [c51, push_cast, Nat.reduceAdd, Nat.reduceMul, Nat.reduceSub, Nat.reduceLT, Nat.reduceLeDiff, Nat.reduceEqDiff, Nat.reducePow, Int.reduceToNat, Int.reduceLT, Int.reduceLE, Int.reduceNeg, Int.reduceEq, Int.reducePow, reduceIte, reduceCtorEq, Int.reduceMul, Int.reduceAdd, Int.reduceSub, Int.reduceMod, Int.reduceDiv, Int.reduceTDiv, Int.reduceTMod]
  generalize hI : iter _ _ _ _ = I
  obtain ⟨T, hI2, ht⟩ := key _ _ hI ⟨_, Prod.ext rfl e0, rfl, rfl, rfl, rfl, rfl⟩
  subst hI2
  rw [tl23 ht]
  simp -implicitDefEqProofs only [push_cast, Nat.reduceAdd, Nat.reduceMul, Nat.reduceSub, Nat.reduceLT, Nat.reduceLeDiff, Nat.reduceEqDiff, Nat.reducePow, Int.reduceToNat, Int.reduceLT, Int.reduceLE, Int.reduceNeg, Int.reduceEq, Int.reducePow, reduceIte, reduceCtorEq, Int.reduceMul, Int.reduceAdd, Int.reduceSub, Int.reduceMod, Int.reduceDiv, Int.reduceTDiv, Int.reduceTMod]
theorem join_nil (k : Nat) (h : List Row) (c : LV) (hn : h.isEmpty = false) : evF cm (k + 3) 51 [c, .nils] h 0 = some (.tup [], h) := by
  rw [evX_fun (m := c51) rfl _ _ _ _ hn rfl]
  simp -implicitDefEqProofs only [c51, c51b0, push_cast, Nat.reduceAdd, Nat.reduceMul, Nat.reduceSub, Nat.reduceLT, Nat.reduceLeDiff, Nat.reduceEqDiff, Nat.reducePow, Int.reduceToNat, Int.reduceLT, Int.reduceLE, Int.reduceNeg, Int.reduceEq, Int.reducePow, reduceIte, reduceCtorEq, Int.reduceMul, Int.reduceAdd, Int.reduceSub, Int.reduceMod, Int.reduceDiv, Int.reduceTDiv, Int.reduceTMod, iter_s]
end Go.Proofs.Ytcmlnjkbdlakfaa
