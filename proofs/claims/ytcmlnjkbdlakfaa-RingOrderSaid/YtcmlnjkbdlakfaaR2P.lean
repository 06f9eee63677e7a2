/- A run at a ring: a worker's cells, and its operation's step, as they lie in a heap. -/
import Derived.Test.YtcmlnjkbdlakfaaR2O
set_option linter.unusedSimpArgs false
set_option linter.unusedVariables false
set_option linter.unusedSectionVars false
set_option maxRecDepth 100000
set_option maxHeartbeats 16000000
namespace Go.Proofs.Ytcmlnjkbdlakfaa
open Go
theorem upd_upd {α : Type} (f : Nat → α) (t : Nat) (a b : α) : upd (upd f t a) t b = upd f t b := by
  funext u
  by_cases h : u = t
  · subst h; rw [upd_same, upd_same]
  · rw [upd_ne _ _ h, upd_ne _ _ h, upd_ne _ _ h]
theorem upd_id {α : Type} (f : Nat → α) (t : Nat) (a : α) (h : f t = a) : upd f t a = f := by
  funext u
  by_cases e : u = t
  · subst e; rw [upd_same, h]
  · rw [upd_ne _ _ e]
section
variable {S1 S2 : LV} {K W i : Nat} {l : List Int} {h : List Row} {g : GM} {C : List Int} {row : Tg → Nat} {gr : GR → Nat}
theorem GAt.cast (A : GAt S1 S2 K W h g C row gr) {g' : GM} (e : g = g') : GAt S1 S2 K W h g' C row gr := e ▸ A
theorem GAt.left (A : GAt S1 S2 K W h g C row gr) {u t : Nat} (hu : u = t + 1) (n : Int) : GAt S1 S2 K W (h.set (gr .ls) ⟨0, cl (W * 4) (upd (qc g gr) (t * 4 + 2) (.i n))⟩) { g with w := upd g.w u { g.w u with left := n } } C row gr := by
  refine A.turn u { g.w u with left := n } (.inl rfl) fun v => ?_
  rw [qc0, qc1, qc2, qc3]
  by_cases e : v = t
  · subst e
    subst hu
    simp only [opP, upd_same]
    rw [upd_ne _ _ (by omega), upd_ne _ _ (by omega), upd_ne _ _ (by omega), qc0, qc1, qc3]
    refine ⟨?_, ?_, ?_, ?_⟩ <;> first | rfl | trivial
  · simp only [opP, upd_ne _ _ (show v + 1 ≠ u by omega)]
    rw [upd_ne _ _ (by omega), upd_ne _ _ (by omega), upd_ne _ _ (by omega), upd_ne _ _ (by omega), qc0, qc1, qc2, qc3]
    refine ⟨?_, ?_, ?_, ?_⟩ <;> first | rfl | trivial
theorem GAt.read (A : GAt S1 S2 K W h g C row gr) {u t : Nat} (hu : u = t + 1) (n : Bool) : GAt S1 S2 K W (h.set (gr .ls) ⟨0, cl (W * 4) (upd (qc g gr) (t * 4 + 3) (.b n))⟩) { g with w := upd g.w u { g.w u with read := n } } C row gr := by
  refine A.turn u { g.w u with read := n } (.inl rfl) fun v => ?_
  rw [qc0, qc1, qc2, qc3]
  by_cases e : v = t
  · subst e
    subst hu
    simp only [opP, upd_same]
    rw [upd_ne _ _ (by omega), upd_ne _ _ (by omega), upd_ne _ _ (by omega), qc0, qc1, qc2]
    refine ⟨?_, ?_, ?_, ?_⟩ <;> first | rfl | trivial
  · simp only [opP, upd_ne _ _ (show v + 1 ≠ u by omega)]
    rw [upd_ne _ _ (by omega), upd_ne _ _ (by omega), upd_ne _ _ (by omega), upd_ne _ _ (by omega), qc0, qc1, qc2, qc3]
    refine ⟨?_, ?_, ?_, ?_⟩ <;> first | rfl | trivial
theorem GAt.frame (A : GAt S1 S2 K W h g C row gr) {u t : Nat} (hu : u = t + 1) (n : Int) : GAt S1 S2 K W (h.set (gr .ls) ⟨0, cl (W * 4) (upd (qc g gr) (t * 4 + 1) (.i n))⟩) { g with w := upd g.w u { g.w u with frame := n } } C row gr := by
  refine A.turn u { g.w u with frame := n } (.inl rfl) fun v => ?_
  rw [qc0, qc1, qc2, qc3]
  by_cases e : v = t
  · subst e
    subst hu
    simp only [opP, upd_same]
    rw [upd_ne _ _ (by omega), upd_ne _ _ (by omega), upd_ne _ _ (by omega), qc0, qc2, qc3]
    refine ⟨?_, ?_, ?_, ?_⟩ <;> first | rfl | trivial
  · simp only [opP, upd_ne _ _ (show v + 1 ≠ u by omega)]
    rw [upd_ne _ _ (by omega), upd_ne _ _ (by omega), upd_ne _ _ (by omega), upd_ne _ _ (by omega), qc0, qc1, qc2, qc3]
    refine ⟨?_, ?_, ?_, ?_⟩ <;> first | rfl | trivial
theorem GAt.drop (A : GAt S1 S2 K W h g C row gr) {u t : Nat} (hu : u = t + 1) : GAt S1 S2 K W (h.set (gr .ls) ⟨0, cl (W * 4) (upd (qc g gr) (t * 4) (.v (.pointer none)))⟩) { g with w := upd g.w u { g.w u with o := none } } C row gr := by
  refine A.turn u _ (.inr rfl) fun v => ?_
  rw [qc0, qc1, qc2, qc3]
  by_cases e : v = t
  · subst e
    subst hu
    simp only [opP, upd_same]
    rw [upd_ne _ _ (by omega), upd_ne _ _ (by omega), upd_ne _ _ (by omega), qc1, qc2, qc3]
    refine ⟨?_, ?_, ?_, ?_⟩ <;> first | rfl | trivial
  · simp only [opP, upd_ne _ _ (show v + 1 ≠ u by omega)]
    rw [upd_ne _ _ (by omega), upd_ne _ _ (by omega), upd_ne _ _ (by omega), upd_ne _ _ (by omega), qc0, qc1, qc2, qc3]
    refine ⟨?_, ?_, ?_, ?_⟩ <;> first | rfl | trivial
theorem GAt.fresh (A : GAt S1 S2 K W h g C row gr) {u t : Nat} (hu : u = t + 1) (h2 : u ≤ W) (o : RO) (X : List Row) : GAt S1 S2 K W (h.set (gr .ls) ⟨0, cl (W * 4) (upd (qc g gr) (t * 4) (.p (h.length + X.length) 0 0))⟩ ++ X ++ [(⟨0, o.cells (gr .rg)⟩ : Row)]) { g with w := upd g.w u { g.w u with o := some o } } C row (setC gr (.op u) (h.length + X.length)) := by
  refine A.wnew (by omega) h2 o X fun v => ?_
  by_cases e : v = t
  · subst e
    subst hu
    simp only [upd_same, if_true]
    rw [upd_ne _ _ (by omega), upd_ne _ _ (by omega), upd_ne _ _ (by omega)]
    refine ⟨?_, ?_, ?_, ?_⟩ <;> first | rfl | trivial
  · rw [if_neg (by omega), upd_ne _ _ (by omega), upd_ne _ _ (by omega), upd_ne _ _ (by omega), upd_ne _ _ (by omega)]
    refine ⟨?_, ?_, ?_, ?_⟩ <;> first | rfl | trivial
/-- A step of a worker's operation. -/
theorem wmid (k : Nat) {u : Nat} {o : RO} (A : GAt S1 S2 K W h { g with w := upd g.w u { g.w u with o := some o } } C row gr) (I : CtlI K l.length W (tkF l) g) (Y : AX K W i g) (hK : K ≤ 8) (hF : l.length ≤ 8) (hi : i ≤ 10000) (h1 : 1 ≤ u) (h2 : u ≤ W) (H : OpOk g i u o) :
    ∃ h2 row2, evF cm (k + 116) 25 [.p (gr (.op u)) 0 0, .p (row .mem) 0 0, .i u] h 0 = some (.tup [.b (!decide ((stepR ⟨g.M, g.R, o⟩ u).o.w = 0)), .i 0], h2) ∧
      GAt S1 S2 K W h2 { g with M := (stepR ⟨g.M, g.R, o⟩ u).M, R := (stepR ⟨g.M, g.R, o⟩ u).R, w := upd g.w u { g.w u with o := some (stepR ⟨g.M, g.R, o⟩ u).o } } C row2 gr ∧ row2 .mem = row .mem := by
  obtain ⟨h3, row2, e18, X⟩ := step_ok k o (OpOk.pre (g := g) A rfl rfl I Y hK hi h2 (ρ := .op u) (show (1 ≤ u ∧ u ≤ W) ∧ _ from ⟨⟨h1, h2⟩, by dsimp only; rw [upd_same]; simp⟩) (A.rop h1 h2 (by dsimp only; rw [upd_same])) (by simp)) (H.fits I Y hF hi) H.pc H.w
  refine ⟨h3, row2, e18, (A.wstep h1 h2 (by dsimp only; rw [upd_same]) X).cast ?_, X.rm⟩
  simp only [upd_same, upd_upd]
theorem outG_len (r n : Nat) : lenE (outG 1 r n) = some (.i n) := by cases n <;> rfl
/-- A worker reads the cell of the frame that it has. -/
theorem work_read (k : Nat) (A : GAt S1 S2 K W h g C row gr) (I : CtlI K l.length W (tkF l) g) (Y : AX K W i g) (hK : K ≤ 8) (hi : i ≤ 10000) (hF : l.length ≤ 8) {u t : Nat} (hu : u = t + 1) (h2 : u ≤ W) (hW : W ≤ 5) (z1 : eqLV S1 S1 = true) (z2 : eqLV S2 S2 = true) (hl : 0 < (g.w u).left) (hr : (g.w u).read = false) :
    ∃ h' row', evF cm (k + 140) 11 [.p (gr .gm) 0 0, .i u] h 0 = some (.tup [], h') ∧ GAt S1 S2 K W h' { g with M := g.M.access u (1 + sl g.R.k (g.w u).frame) false, w := upd g.w u { g.w u with read := true } } C row' gr ∧ row' .mem = row .mem := by
  obtain ⟨r1, r2, r3, r4⟩ := I.rk
  have kp := I.kp
  have hb := I.b
  have hfr : (g.w u).frame = g.done := by
    rcases I.wk u (by omega) h2 with ⟨q, _⟩ | ⟨q, _⟩ | ⟨_, q, _⟩
    · omega
    · omega
    · exact q
  have hops := Y.ops
  obtain ⟨h3, row2, e, M2, hrm, X⟩ := read_ok (k + 28) h g.M row A.mem u (1 + sl g.R.k (g.w u).frame) (by rw [Y.n]; omega) (by rw [Y.np, r1]; have := sl_lt kp (g.w u).frame; omega) (by omega) (by rw [Y.cl]; simp)
  have A2 := A.mfr M2 hrm X
  have A3 := A2.read hu true
  refine ⟨_, row2, ?_, A3, hrm⟩
  have q1 := A.rgm
  have k1 := A2.rgm
  have sg := set_self (at_rowOf k1)
  obtain ⟨F, hFq, q2, f0, f1, f2, f3⟩ := A.view hu
  obtain ⟨F2, hF2, k2, y0, y1, y2, y3⟩ := A2.view hu
  rw [hF2]
  have hne := A.ne0
  have hne2 := A2.ne0
  simp only [gmC, hrm] at q1 k1 sg
  rw [hr] at f3
  have w0 : IntKind.i64.wrap ((u : Int) - 1) = (t : Int) := by rw [w64 _ (by omega) (by omega)]; omega
  have g1 : (t : Int) < (W : Int) := by omega
  have g2 : (0 : Int) ≤ (t : Int) := by omega
  have b0 : t * 4 < W * 4 := by omega
  have b1 : t * 4 + 1 < W * 4 := by omega
  have b2 : t * 4 + 2 < W * 4 := by omega
  have b3 : t * 4 + 3 < W * 4 := by omega
  have b4 : t * 4 + 3 + 1 ≤ W * 4 := by omega
  have b5 : t * 4 + 4 ≤ W * 4 := by omega
  have nz : ¬ (K : Int) = 0 := by omega
  have hsl : (g.w u).frame.tmod (K : Int) = (sl K (g.w u).frame : Int) := by
    rw [hfr]
    have h1 := Int.emod_nonneg (g.done : Int) (b := (K : Int)) (by omega)
    rw [tmod_pos (by omega)]
    unfold sl; omega
  have hlt := sl_lt kp (g.w u).frame
  have w1 : IntKind.i64.wrap ((sl K (g.w u).frame : Nat) : Int) = (sl K (g.w u).frame : Int) := w64 _ (by omega) (by omega)
  have w2 : IntKind.i64.wrap (1 + (sl K (g.w u).frame : Int)) = ((1 + sl K (g.w u).frame : Nat) : Int) := by rw [w64 _ (by omega) (by omega)]; omega
  rw [r1] at e
  generalize ((1 + sl K (g.w u).frame : Nat) : Int) = pp at *
  rw [evX_fun (m := c11) rfl _ _ _ _ A.ne0 rfl]
  simp -implicitDefEqProofs (maxSteps := 1000000) only [c11, q1, k1, q2, k2, sg, f0, f1, f2, f3, y0, y1, y2, y3, hl, w0, g1, g2, b0, b1, b2, b3, b4, b5, nz, hsl, w1, w2, e, cl_get, cl_length, cl_put, evX_P, evX_N, push_cast, Nat.reduceAdd, Nat.reduceMul, Nat.reduceSub, Nat.reduceLT, Nat.reduceLeDiff, Nat.reduceEqDiff, Nat.reducePow, Int.reduceToNat, Int.reduceLT, Int.reduceLE, Int.reduceNeg, Int.reduceEq, Int.reducePow, reduceIte, reduceCtorEq, Int.reduceMul, Int.reduceAdd, Int.reduceSub, Int.reduceMod, Int.reduceDiv, Int.reduceTDiv, Int.reduceTMod, iter_s]
end
end Go.Proofs.Ytcmlnjkbdlakfaa
