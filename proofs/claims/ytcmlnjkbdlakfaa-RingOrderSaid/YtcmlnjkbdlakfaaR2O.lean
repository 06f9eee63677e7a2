/- A run at a ring: a step of who publishes, as the evaluator answers. -/
import Derived.Test.YtcmlnjkbdlakfaaR2N
set_option linter.unusedSimpArgs false
set_option linter.unusedVariables false
set_option linter.unusedSectionVars false
set_option maxRecDepth 100000
set_option maxHeartbeats 16000000
namespace Go.Proofs.Ytcmlnjkbdlakfaa
open Go
def tkF (l : List Int) (f : Nat) : Int := l.getD f 0
theorem outG_eq (e r n : Nat) : eqLV (outG e r n) (outG e r n) = true := by cases n <;> simp [outG, eqLV, eqV]
theorem gmC_eq {S1 S2 : LV} (z1 : eqLV S1 S1 = true) (z2 : eqLV S2 S2 = true) (K W m r : Nat) {P : LV} (hP : eqLV P P = true) (l next : Nat) (n c : Nat) (done : Nat) : eqLs (gmC S1 S2 K W m r P l next (outG 1 c n) done) (gmC S1 S2 K W m r P l next (outG 1 c n) done) = true := by
  simp [gmC, eqLs, eqLV, eqV, z1, z2, hP, outG_eq]
section
variable {S1 S2 : LV} {K W i : Nat} {l : List Int} {h : List Row} {g : GM} {C : List Int} {row : Tg → Nat} {gr : GR → Nat}
/-- What who publishes finds when its operation is over. -/
theorem pub_end {o : RO} {nx : Nat} (hw : (stepR ⟨g.M, g.R, o⟩ 0).o.w ≠ 0) (h : (gpub1 g o nx).wrong = false) : (stepR ⟨g.M, g.R, o⟩ 0).o.frame = (nx : Int) - 1 ∧ ((stepR ⟨g.M, g.R, o⟩ 0).R.head : Int) = nx ∧ ¬ (g.R.k : Int) < (nx : Int) - g.done := by
  simp only [gpub1, if_neg hw, Bool.or_eq_false_iff, decide_eq_false_iff_not, Decidable.not_not] at h
  exact ⟨h.1.1.2, h.1.2, h.2⟩
theorem pub_old (k : Nat) (A : GAt S1 S2 K W h g C row gr) (I : CtlI K l.length W (tkF l) g) (hwr : (gpub l.length (tkF l) g).wrong = false) (Y : AX K W i g) (hK : K ≤ 8) (hF : l.length ≤ 8) (hT : ∀ f, f < l.length → 0 < tkF l f ∧ tkF l f ≤ 4) (hi : i ≤ 10000) (hS : SlI l S1) (z1 : eqLV S1 S1 = true) (z2 : eqLV S2 S2 = true) {o : RO} (ho : g.pub = some o) :
    ∃ h' row' gr', evF cm (k + 140) 10 [.p (gr .gm) 0 0] h 0 = some (.tup [], h') ∧ GAt S1 S2 K W h' (gpub l.length (tkF l) g) C row' gr' ∧ gr' .gm = gr .gm ∧ gr' .pp = gr .pp ∧ row' .mem = row .mem := by
  have H := I.pok Y hT ho
  obtain ⟨h2, row2, e18, X⟩ := step_ok (k + 23) o (OpOk.pre A rfl rfl I Y hK hi (Nat.zero_le _) (ρ := .pb) (show g.pub ≠ none by rw [ho]; simp) (A.rpb ho) (by simp)) (H.fits I Y hF hi) H.pc H.w
  have z0 : ((0 : Nat) : Int) = 0 := rfl
  rw [z0] at e18
  have A2 := A.pstep ho X
  have q1 := A.rgm
  have k1 := A2.rgm
  have sg := set_self (at_rowOf k1)
  simp only [gmC, pubP, ho, X.rm] at q1 k1 sg
  have tk : turnK h2 h2 (gr .gm) = true := turnK_of k1 k1 (gmC_eq z1 z2 _ _ _ _ (by simp [pubP, eqLV]) _ _ _ _ _)
  have hb := I.b
  have hr1 := I.rk.1
  have hne := A.ne0
  have hne2 := A2.ne0
  unfold gpub at hwr ⊢
  rw [ho] at hwr ⊢
  dsimp only at hwr ⊢
  by_cases hw : (stepR ⟨g.M, g.R, o⟩ 0).o.w = 0
  · rw [hw] at e18
    simp only [decide_true, Bool.not_true] at e18
    refine ⟨h2, row2, gr, ?_, ?_, rfl, rfl, X.rm⟩
    rotate_left
    · have : gpub1 g o g.next = { g with M := (stepR ⟨g.M, g.R, o⟩ 0).M, R := (stepR ⟨g.M, g.R, o⟩ 0).R, pub := some (stepR ⟨g.M, g.R, o⟩ 0).o } := by simp only [gpub1, if_pos hw]
      rw [this]; exact A2
    rw [evX_fun (m := c10) rfl _ _ _ _ A.ne0 rfl]
    simp -implicitDefEqProofs (maxSteps := 1000000) only [c10, q1, k1, sg, e18, evX_P, evX_N, push_cast, Nat.reduceAdd, Nat.reduceMul, Nat.reduceSub, Nat.reduceLT, Nat.reduceLeDiff, Nat.reduceEqDiff, Nat.reducePow, Int.reduceToNat, Int.reduceLT, Int.reduceLE, Int.reduceNeg, Int.reduceEq, Int.reducePow, reduceIte, reduceCtorEq, Int.reduceMul, Int.reduceAdd, Int.reduceSub, Int.reduceMod, Int.reduceDiv, Int.reduceTDiv, Int.reduceTMod, iter_s]
  · obtain ⟨f1, f2, f3⟩ := pub_end hw hwr
    rw [decide_eq_false hw] at e18
    simp only [Bool.not_false] at e18
    have ef := fun k => frame_ok k _ X.op
    have eh := fun k => head_ok k _ X.rg
    rw [f1] at ef
    rw [f2] at eh
    rw [hr1] at f3
    have w5 : IntKind.i64.wrap ((g.next : Int) - 1) = (g.next : Int) - 1 := w64 _ (by omega) (by omega)
    have w6 : IntKind.i64.wrap ((g.next : Int) - g.done) = (g.next : Int) - g.done := w64 _ (by omega) (by omega)
    have A3 := A2.pdrop.same g.ncl (gpub1 g o g.next).wrong
    refine ⟨h2.set (gr .gm) ⟨0, gmC S1 S2 K W (row2 .mem) (gr .rg) (.v (.pointer none)) (gr .ls) g.next (outG 1 (gr .cl) C.length) g.done⟩, row2, gr, ?_, ?_, rfl, rfl, X.rm⟩
    rotate_left
    · have : gpub1 g o g.next = { g with M := (stepR ⟨g.M, g.R, o⟩ 0).M, R := (stepR ⟨g.M, g.R, o⟩ 0).R, pub := none, wrong := (gpub1 g o g.next).wrong } := by
        conv => lhs; unfold gpub1
        simp only [if_neg hw, gpub1]
      rw [this]; exact A3
    rw [evX_fun (m := c10) rfl _ _ _ _ A.ne0 rfl]
    simp -implicitDefEqProofs (maxSteps := 1000000) only [c10, gmC, q1, k1, sg, e18, ef, eh, w5, w6, f3, X.rm, tk, eq_self, evX_P, evX_N, push_cast, Nat.reduceAdd, Nat.reduceMul, Nat.reduceSub, Nat.reduceLT, Nat.reduceLeDiff, Nat.reduceEqDiff, Nat.reducePow, Int.reduceToNat, Int.reduceLT, Int.reduceLE, Int.reduceNeg, Int.reduceEq, Int.reducePow, reduceIte, reduceCtorEq, Int.reduceMul, Int.reduceAdd, Int.reduceSub, Int.reduceMod, Int.reduceDiv, Int.reduceTDiv, Int.reduceTMod, iter_s]
theorem pub_none (k : Nat) (A : GAt S1 S2 K W h g C row gr) (hF : l.length ≤ 8) (hS : SlI l S1) (ho : g.pub = none) (hn : l.length ≤ g.next) :
    evF cm (k + 140) 10 [.p (gr .gm) 0 0] h 0 = some (.tup [], h) := by
  have q1 := A.rgm
  simp only [gmC, pubP, ho] at q1
  have g1 : (l.length : Int) ≤ (g.next : Int) := by omega
  rw [evX_fun (m := c10) rfl _ _ _ _ A.ne0 rfl]
  simp -implicitDefEqProofs (maxSteps := 1000000) only [c10, q1, hS.len, g1, push_cast, Nat.reduceAdd, Nat.reduceMul, Nat.reduceSub, Nat.reduceLT, Nat.reduceLeDiff, Nat.reduceEqDiff, Nat.reducePow, Int.reduceToNat, Int.reduceLT, Int.reduceLE, Int.reduceNeg, Int.reduceEq, Int.reducePow, reduceIte, reduceCtorEq, Int.reduceMul, Int.reduceAdd, Int.reduceSub, Int.reduceMod, Int.reduceDiv, Int.reduceTDiv, Int.reduceTMod, iter_s]
theorem pub_new (k : Nat) (A : GAt S1 S2 K W h g C row gr) (I : CtlI K l.length W (tkF l) g) (hwr : (gpub l.length (tkF l) g).wrong = false) (Y : AX K W i g) (hK : K ≤ 8) (hF : l.length ≤ 8) (hT : ∀ f, f < l.length → 0 < tkF l f ∧ tkF l f ≤ 4) (hi : i ≤ 10000) (hS : SlI l S1) (z1 : eqLV S1 S1 = true) (z2 : eqLV S2 S2 = true) (ho : g.pub = none) (hn : ¬ l.length ≤ g.next) :
    ∃ h' row' gr', evF cm (k + 140) 10 [.p (gr .gm) 0 0] h 0 = some (.tup [], h') ∧ GAt S1 S2 K W h' (gpub l.length (tkF l) g) C row' gr' ∧ gr' .gm = gr .gm ∧ gr' .pp = gr .pp ∧ row' .mem = row .mem := by
  have H : OpOk g i 0 (RO.new .publish 0 (tkF l g.next)) := I.newok hT hn
  have AB := A.pnew (RO.new .publish 0 (tkF l g.next)) (g.next + 1)
  obtain ⟨hB, hhB⟩ : ∃ hB, h.set (gr .gm) ⟨0, gmC S1 S2 K W (row .mem) (gr .rg) (.p h.length 0 0) (gr .ls) (g.next + 1) (outG 1 (gr .cl) C.length) g.done⟩ ++ [(⟨0, (RO.new .publish 0 (tkF l g.next)).cells (gr .rg)⟩ : Row)] = hB := ⟨_, rfl⟩
  obtain ⟨gB, hgB⟩ : ∃ gB, setC gr .pb h.length = gB := ⟨_, rfl⟩
  have b1 : gB .gm = gr .gm := by rw [← hgB]; exact setC_ne _ _ (by simp)
  have b2 : gB .rg = gr .rg := by rw [← hgB]; exact setC_ne _ _ (by simp)
  have b3 : gB .ls = gr .ls := by rw [← hgB]; exact setC_ne _ _ (by simp)
  have b4 : gB .cl = gr .cl := by rw [← hgB]; exact setC_ne _ _ (by simp)
  have b6 : gB .pp = gr .pp := by rw [← hgB]; exact setC_ne _ _ (by simp)
  have b5 : gB .pb = h.length := by rw [← hgB]; exact setC_eq _ _ _
  rw [hhB, hgB] at AB
  obtain ⟨h2, row2, e18, X⟩ := step_ok (k + 23) (RO.new .publish 0 (tkF l g.next)) (OpOk.pre (g := g) AB rfl rfl I Y hK hi (Nat.zero_le _) (ρ := .pb) (by show some _ ≠ none; simp) (AB.rpb rfl) (by simp)) (H.fits I Y hF hi) H.pc H.w
  have z0 : ((0 : Nat) : Int) = 0 := rfl
  rw [z0] at e18
  have A2 := AB.pstep rfl X
  have q1 := A.rgm
  have p1 := AB.rgm
  have k1 := A2.rgm
  have sg := set_self (at_rowOf k1)
  have r1 := rowOf_lt q1
  have tk : turnK h2 h2 (gr .gm) = true := turnK_of (b1 ▸ k1) (b1 ▸ k1) (gmC_eq z1 z2 _ _ _ _ (by simp [pubP, eqLV]) _ _ _ _ _)
  have tk0 : turnK (h ++ [(⟨0, (RO.new .publish 0 (tkF l g.next)).cells (gr .rg)⟩ : Row)]) (h ++ [(⟨0, (RO.new .publish 0 (tkF l g.next)).cells (gr .rg)⟩ : Row)]) (gr .gm) = true := by
    have := (rowOf_app_lt (t := [(⟨0, (RO.new .publish 0 (tkF l g.next)).cells (gr .rg)⟩ : Row)]) r1).trans q1
    exact turnK_of this this (gmC_eq z1 z2 _ _ _ _ (by simp [pubP, ho, eqLV, eqV]) _ _ _ _ _)
  have tk1 : turnK h (h ++ [(⟨0, (RO.new .publish 0 (tkF l g.next)).cells (gr .rg)⟩ : Row)]) (gr .gm) = true := by
    have := (rowOf_app_lt (t := [(⟨0, (RO.new .publish 0 (tkF l g.next)).cells (gr .rg)⟩ : Row)]) r1).trans q1
    exact turnK_of q1 this (gmC_eq z1 z2 _ _ _ _ (by simp [pubP, ho, eqLV, eqV]) _ _ _ _ _)
  have e13 := fun k => publish_mk k A.ne0 (gr .rg) (tkF l g.next)
  have n3 : ∀ x, rowOf (h ++ x) (gr .gm) 0 = rowOf h (gr .gm) 0 := fun x => rowOf_app_lt r1
  have n2 : ∀ x y, (h ++ x).set (gr .gm) y = h.set (gr .gm) y ++ x := fun x y => List.set_append_left _ _ r1
  have n4 : ∀ x cs, rowOf (h.set (gr .gm) ⟨0, cs⟩ ++ x) (gr .gm) 0 = some cs := fun x cs => by rw [rowOf_app_lt (by simpa using r1)]; exact rowOf_set_eq r1
  have n5 : ∀ x y z, (h.set (gr .gm) z ++ x).set (gr .gm) y = h.set (gr .gm) y ++ x := fun x y z => by rw [List.set_append_left _ _ (by simpa using r1), List.set_set]
  simp only [b1, b2, b3, b4, b5, gmC, pubP, ho, X.rm] at q1 p1 k1 sg e18 hhB X
  have hb := I.b
  have hr1 := I.rk.1
  have hne := A.ne0
  have hneB := AB.ne0
  have hne2 := A2.ne0
  have g1 : ¬ (l.length : Int) ≤ (g.next : Int) := by omega
  have g2 : (0 : Int) ≤ (g.next : Int) := by omega
  have g3 : (g.next : Int) < (l.length : Int) := by omega
  have w1 : IntKind.i64.wrap ((g.next : Int) + 1) = ((g.next + 1 : Nat) : Int) := by rw [w64 _ (by omega) (by omega)]; omega
  have hx := hS.ix g.next (by omega) g3
  rw [Int.toNat_natCast] at hx
  have hrd := rd_ints l g.next (by omega)
  have hrd' := rd_ints' l g.next (by omega)
  have ht : l.getD g.next 0 = tkF l g.next := rfl
  rw [ht] at hrd hrd'
  unfold gpub at hwr ⊢
  rw [ho] at hwr ⊢
  dsimp only at hwr ⊢
  rw [if_neg hn] at hwr ⊢
  have w5 : IntKind.i64.wrap (((g.next + 1 : Nat) : Int) - 1) = ((g.next + 1 : Nat) : Int) - 1 := w64 _ (by omega) (by omega)
  have w6 : IntKind.i64.wrap (((g.next + 1 : Nat) : Int) - g.done) = ((g.next + 1 : Nat) : Int) - g.done := w64 _ (by omega) (by omega)
  by_cases hw : (stepR ⟨g.M, g.R, (RO.new .publish 0 (tkF l g.next))⟩ 0).o.w = 0
  · rw [hw] at e18
    simp only [decide_true, Bool.not_true] at e18
    refine ⟨h2, row2, gB, ?_, ?_, b1, b6, X.rm⟩
    rotate_left
    · have : gpub1 g (RO.new .publish 0 (tkF l g.next)) (g.next + 1) = { g with M := (stepR ⟨g.M, g.R, (RO.new .publish 0 (tkF l g.next))⟩ 0).M, R := (stepR ⟨g.M, g.R, (RO.new .publish 0 (tkF l g.next))⟩ 0).R, pub := some (stepR ⟨g.M, g.R, (RO.new .publish 0 (tkF l g.next))⟩ 0).o, next := g.next + 1 } := by simp only [gpub1, if_pos hw]
      rw [this]; exact A2
    generalize (RO.new .publish 0 (tkF l g.next)).cells (gr .rg) = oc at *
    generalize ((g.next + 1 : Nat) : Int) = nx at *
    rw [evX_fun (m := c10) rfl _ _ _ _ A.ne0 rfl]
    simp -implicitDefEqProofs (maxSteps := 1000000) only [c10, q1, p1, k1, sg, e13, e18, hS.len, g1, g2, g3, w1, hx, hrd, hrd', n2, n3, n4, n5, tk0, tk1, hhB, evX_P, evX_N, push_cast, Nat.reduceAdd, Nat.reduceMul, Nat.reduceSub, Nat.reduceLT, Nat.reduceLeDiff, Nat.reduceEqDiff, Nat.reducePow, Int.reduceToNat, Int.reduceLT, Int.reduceLE, Int.reduceNeg, Int.reduceEq, Int.reducePow, reduceIte, reduceCtorEq, Int.reduceMul, Int.reduceAdd, Int.reduceSub, Int.reduceMod, Int.reduceDiv, Int.reduceTDiv, Int.reduceTMod, iter_s]
  · obtain ⟨f1, f2, f3⟩ := pub_end hw hwr
    rw [decide_eq_false hw] at e18
    simp only [Bool.not_false] at e18
    have ef := fun k => frame_ok k _ X.op
    have eh := fun k => head_ok k _ X.rg
    rw [f1] at ef
    rw [f2] at eh
    rw [hr1] at f3
    have A3 := A2.pdrop.same g.ncl (gpub1 g (RO.new .publish 0 (tkF l g.next)) (g.next + 1)).wrong
    refine ⟨h2.set (gr .gm) ⟨0, gmC S1 S2 K W (row2 .mem) (gr .rg) (.v (.pointer none)) (gr .ls) (g.next + 1) (outG 1 (gr .cl) C.length) g.done⟩, row2, gB, ?_, ?_, b1, b6, X.rm⟩
    rotate_left
    · have : gpub1 g (RO.new .publish 0 (tkF l g.next)) (g.next + 1) = { g with M := (stepR ⟨g.M, g.R, (RO.new .publish 0 (tkF l g.next))⟩ 0).M, R := (stepR ⟨g.M, g.R, (RO.new .publish 0 (tkF l g.next))⟩ 0).R, pub := none, next := g.next + 1, wrong := (gpub1 g (RO.new .publish 0 (tkF l g.next)) (g.next + 1)).wrong } := by
        conv => lhs; unfold gpub1
        simp only [if_neg hw, gpub1]
      rw [this, ← b1, ← b2, ← b3, ← b4]; exact A3
    have hrm := X.rm
    generalize (RO.new .publish 0 (tkF l g.next)).cells (gr .rg) = oc at *
    unfold gmC
    generalize ((g.next + 1 : Nat) : Int) = nx at *
    rw [evX_fun (m := c10) rfl _ _ _ _ A.ne0 rfl]
    simp -implicitDefEqProofs (maxSteps := 1000000) only [c10, q1, p1, k1, sg, e13, e18, hS.len, g1, g2, g3, w1, hx, hrd, hrd', n2, n3, n4, n5, tk0, tk1, hhB, tk, ef, eh, w5, w6, f3, hrm, eq_self, evX_P, evX_N, push_cast, Nat.reduceAdd, Nat.reduceMul, Nat.reduceSub, Nat.reduceLT, Nat.reduceLeDiff, Nat.reduceEqDiff, Nat.reducePow, Int.reduceToNat, Int.reduceLT, Int.reduceLE, Int.reduceNeg, Int.reduceEq, Int.reducePow, reduceIte, reduceCtorEq, Int.reduceMul, Int.reduceAdd, Int.reduceSub, Int.reduceMod, Int.reduceDiv, Int.reduceTDiv, Int.reduceTMod, iter_s]
/-- A step of who publishes. -/
theorem gpub_ok (k : Nat) (A : GAt S1 S2 K W h g C row gr) (I : CtlI K l.length W (tkF l) g) (Y : AX K W i g) (hK : K ≤ 8) (hF : l.length ≤ 8) (hT : ∀ f, f < l.length → 0 < tkF l f ∧ tkF l f ≤ 4) (hi : i ≤ 10000) (hS : SlI l S1) (z1 : eqLV S1 S1 = true) (z2 : eqLV S2 S2 = true) :
    ∃ h' row' gr', evF cm (k + 140) 10 [.p (gr .gm) 0 0] h 0 = some (.tup [], h') ∧ GAt S1 S2 K W h' (gpub l.length (tkF l) g) C row' gr' ∧ gr' .gm = gr .gm ∧ gr' .pp = gr .pp ∧ row' .mem = row .mem := by
  have hwr : (gpub l.length (tkF l) g).wrong = false := I.gpub.wr
  cases ho : g.pub with
  | some o => exact pub_old k A I hwr Y hK hF hT hi hS z1 z2 ho
  | none =>
    by_cases hn : l.length ≤ g.next
    · refine ⟨h, row, gr, pub_none k A hF hS ho hn, ?_, rfl, rfl, rfl⟩
      have : gpub l.length (tkF l) g = g := by unfold gpub; rw [ho]; exact if_pos hn
      rw [this]; exact A
    · exact pub_new k A I hwr Y hK hF hT hi hS z1 z2 ho hn
end
end Go.Proofs.Ytcmlnjkbdlakfaa
