/- A run at a ring: a thread's step, and the loops, as the evaluator answers. -/
import Derived.Test.YtcmlnjkbdlakfaaR2Q
set_option linter.unusedSimpArgs false
set_option linter.unusedVariables false
set_option linter.unusedSectionVars false
set_option maxRecDepth 100000
set_option maxHeartbeats 16000000
namespace Go.Proofs.Ytcmlnjkbdlakfaa
open Go
section
variable {S1 S2 : LV} {K W i : Nat} {l : List Int} {h : List Row} {g : GM} {C : List Int} {row : Tg → Nat} {gr : GR → Nat}
theorem gwork_eq {F : Nat} {Tk : Nat → Int} {u : Nat} (h : ¬ (0 < (g.w u).left ∧ (g.w u).read = false)) : gwork F Tk g u = gwork1 F Tk g u (g.w u) (wop (g.w u)) := by
  unfold gwork; dsimp only; rw [if_neg h]; rfl
theorem bc_wr {F : Nat} {Tk : Nat → Int} {u : Nat} {o : RO} (hw : (stepR ⟨g.M, g.R, o⟩ u).o.w ≠ 0) (hl : 0 < (g.w u).left) (hwr : (gwork1 F Tk g u (g.w u) o).wrong = false) : (stepR ⟨g.M, g.R, o⟩ u).o.w = 1 ↔ (g.w u).left = 1 := by
  rw [g1_bc hw hl] at hwr
  simp only [Bool.or_eq_false_iff] at hwr
  have := hwr.2
  by_cases a : (stepR ⟨g.M, g.R, o⟩ u).o.w = 1 <;> by_cases b : (g.w u).left = 1 <;> simp [a, b] at this ⊢
/-- A worker's step. -/
theorem gwork_ok (k : Nat) (A : GAt S1 S2 K W h g C row gr) (I : CtlI K l.length W (tkF l) g) (Y : AX K W i g) (hK : K ≤ 8) (hF : l.length ≤ 8) (hi : i ≤ 10000) (hS : SlI l S1) (z1 : eqLV S1 S1 = true) (z2 : eqLV S2 S2 = true) (hC : C.length = g.ncl) {u : Nat} (h1 : 1 ≤ u) (hu2 : u ≤ W) (hW : W ≤ 5) :
    ∃ h' row' gr' C', evF cm (k + 140) 11 [.p (gr .gm) 0 0, .i u] h 0 = some (.tup [], h') ∧ GAt S1 S2 K W h' (gwork l.length (tkF l) g u) C' row' gr' ∧ (gr' .gm = gr .gm ∧ gr' .pp = gr .pp ∧ row' .mem = row .mem) ∧ C'.length = (gwork l.length (tkF l) g u).ncl := by
  obtain ⟨t, hu⟩ : ∃ t, u = t + 1 := ⟨u - 1, by omega⟩
  have hwr : (gwork l.length (tkF l) g u).wrong = false := (I.gwork h1 hu2).wr
  by_cases hrd : 0 < (g.w u).left ∧ (g.w u).read = false
  · obtain ⟨h', row', e, A', hm⟩ := work_read k A I Y hK hi hF hu hu2 hW z1 z2 hrd.1 hrd.2
    have ge : gwork l.length (tkF l) g u = { g with M := g.M.access u (1 + sl g.R.k (g.w u).frame) false, w := upd g.w u { g.w u with read := true } } := by
      unfold gwork; dsimp only; rw [if_pos hrd]
    exact ⟨h', row', gr, C, e, ge ▸ A', ⟨rfl, rfl, hm⟩, by rw [ge]; exact hC⟩
  rw [gwork_eq hrd] at hwr ⊢
  have H := I.wok Y hF h1 hu2
  have nc : ∀ o, (gwork1 l.length (tkF l) g u (g.w u) o).ncl = if (stepR ⟨g.M, g.R, o⟩ u).o.w ≠ 0 ∧ ¬ 0 < (g.w u).left ∧ (stepR ⟨g.M, g.R, o⟩ u).o.w = 1 then g.ncl + 1 else g.ncl := fun o => by
    unfold gwork1; dsimp only
    by_cases a : (stepR ⟨g.M, g.R, o⟩ u).o.w = 0
    · rw [if_pos a]; exact (if_neg (fun h => h.1 a)).symm
    by_cases b : 0 < (g.w u).left
    · rw [if_neg a, if_pos b]; exact (if_neg (fun h => h.2.1 b)).symm
    by_cases c : (stepR ⟨g.M, g.R, o⟩ u).o.w = 1
    · rw [if_neg a, if_neg b, if_pos c]; exact (if_pos ⟨a, b, c⟩).symm
    · rw [if_neg a, if_neg b, if_neg c]; exact (if_neg (fun h => c h.2.2)).symm
  have hlm : 0 < (g.w u).left → (g.w u).left ≤ 100 := fun hl => by
    rcases I.wk u h1 hu2 with ⟨q, _⟩ | ⟨q, _⟩ | ⟨_, _, _, _, q⟩
    · omega
    · omega
    · rcases q with ⟨_, q⟩ | ⟨o, _, _, _, _, _, q⟩
      · have := (Y.av (3 + sl K g.done)).2; omega
      · rcases q with ⟨_, q⟩ | ⟨_, q, _⟩
        · have := (Y.av (3 + sl K g.done)).2; omega
        · omega
  cases ho : (g.w u).o with
  | some o =>
    have ew : wop (g.w u) = o := by unfold wop; rw [ho]
    rw [ew] at H hwr ⊢
    by_cases hw : (stepR ⟨g.M, g.R, o⟩ u).o.w = 0
    · obtain ⟨h', row', gr', e, A', hm⟩ := work_has_a k A I Y hK hF hi hS z1 z2 hC hu hu2 hW H ho hrd hw
      exact ⟨h', row', gr', _, e, A', hm, by rw [nc, if_neg (fun h => h.1 hw)]; exact hC⟩
    by_cases hl : 0 < (g.w u).left
    · have hb := bc_wr hw hl hwr
      have hn := nc o
      rw [if_neg (fun h => h.2.1 hl)] at hn
      by_cases hl1 : (g.w u).left = 1
      · obtain ⟨h', row', gr', e, A', hm⟩ := work_has_b k A I Y hK hF hi hS z1 z2 hC hu hu2 hW H ho hrd hl1 (hb.2 hl1)
        exact ⟨h', row', gr', _, e, A', hm, by rw [hn]; exact hC⟩
      · obtain ⟨h', row', gr', e, A', hm⟩ := work_has_c k A I Y hK hF hi hS z1 z2 hC hu hu2 hW H ho hrd hl (hlm hl) hl1 hw (fun h => hl1 (hb.1 h))
        exact ⟨h', row', gr', _, e, A', hm, by rw [hn]; exact hC⟩
    · by_cases hw1 : (stepR ⟨g.M, g.R, o⟩ u).o.w = 1
      · obtain ⟨h', row', gr', e, A', hm⟩ := work_has_d k A I Y hK hF hi hS z1 z2 hC hu hu2 hW H ho hrd hl hw1 hwr
        exact ⟨h', row', gr', _, e, A', hm, by rw [nc, if_pos ⟨hw, hl, hw1⟩, List.length_append, hC]; rfl⟩
      · obtain ⟨h', row', gr', e, A', hm⟩ := work_has_e k A I Y hK hF hi hS z1 z2 hC hu hu2 hW H ho hrd hl hw hw1
        exact ⟨h', row', gr', _, e, A', hm, by rw [nc, if_neg (fun h => hw1 h.2.2)]; exact hC⟩
  | none =>
    by_cases hl : 0 < (g.w u).left
    · have ew : wop (g.w u) = RO.new .finish (g.w u).frame 0 := by unfold wop; rw [ho]; exact if_pos hl
      rw [ew] at H hwr ⊢
      have hr : (g.w u).read = true := by
        cases hh : (g.w u).read with
        | true => rfl
        | false => exact absurd ⟨hl, hh⟩ hrd
      have hn := nc (RO.new .finish (g.w u).frame 0)
      rw [if_neg (fun h => h.2.1 hl)] at hn
      by_cases hw : (stepR ⟨g.M, g.R, RO.new .finish (g.w u).frame 0⟩ u).o.w = 0
      · obtain ⟨h', row', gr', e, A', hm⟩ := work_fin_a k A I Y hK hF hi hS z1 z2 hC hu hu2 hW H ho hl hr hw
        exact ⟨h', row', gr', _, e, A', hm, by rw [hn]; exact hC⟩
      · have hw2 : (stepR ⟨g.M, g.R, RO.new .finish (g.w u).frame 0⟩ u).o.w = 2 := by
          by_cases e : g.M.av (g.R.a + 3 + sl g.R.k (g.w u).frame) = 1
          · exact absurd (by simp [stepR, RO.new, e]) hw
          · simp [stepR, RO.new, e]
        have hb := bc_wr hw hl hwr
        obtain ⟨h', row', gr', e, A', hm⟩ := work_fin_c k A I Y hK hF hi hS z1 z2 hC hu hu2 hW H ho hl hr (hlm hl) (fun h => by have := hb.2 h; omega) hw (by omega)
        exact ⟨h', row', gr', _, e, A', hm, by rw [hn]; exact hC⟩
    · have ew : wop (g.w u) = RO.new .claim 0 0 := by unfold wop; rw [ho]; exact if_neg hl
      rw [ew] at H hwr ⊢
      obtain ⟨h', row', gr', e, A', hm⟩ := work_clm_a k A I Y hK hF hi hS z1 z2 hC hu hu2 hW H ho hl rfl
      exact ⟨h', row', gr', _, e, A', hm, by rw [nc, if_neg (fun h => h.1 rfl)]; exact hC⟩
end
/-! ### the run -/
/-- A slice of bytes. -/
structure SlU (l : List Int) (S : LV) : Prop where
  len : lenE S = some (.i l.length)
  atm : atomB S = true
  cells : S.cells = [S]
  cl : closed S = true
  ix : ∀ i : Nat, i < l.length → ixsE 1 S (.i i) = some (.pi ((l.map fun x => LV.v (.int .u8 x)).drop i))
  rng : ∀ x ∈ l, 0 ≤ x ∧ x ≤ 255
  eq : eqLV S S = true
theorem rd_u8 (l : List Int) (n : Nat) (h : n < l.length) : rdAt ((l.map fun x => LV.v (.int .u8 x)).drop n) 0 none = some (.v (.int .u8 (l.getD n 0))) := by
  simp [rdAt, h]
theorem rd_u8' (l : List Int) (n : Nat) (h : n < l.length) : ((l.map fun x => LV.v (.int .u8 x)).drop n)[0]? = some (.v (.int .u8 (l.getD n 0))) := by
  simp [h]
/-- Whose turn it is. -/
def schF (W : Nat) (p : List Int) (i : Nat) : Nat := if i < p.length then (p.getD i 0).toNat % (W + 1) else i % (W + 1)
theorem schF_le (W : Nat) (p : List Int) (i : Nat) : schF W p i ≤ W := by
  unfold schF
  split <;> exact Nat.le_of_lt_succ (Nat.mod_lt _ (by omega))
/-- A run, somewhere on its way. -/
structure RunSt (S1 S2 : LV) (K W : Nat) (l p : List Int) (g0 m0 : Nat) (i : Nat) (h : List Row) (row : Tg → Nat) (gr : GR → Nat) (C : List Int) : Prop where
  A : GAt S1 S2 K W h (grun K l.length W (tkF l) (schF W p) i) C row gr
  Y : AX K W i (grun K l.length W (tkF l) (schF W p) i)
  nc : C.length = (grun K l.length W (tkF l) (schF W p) i).ncl
  gm : gr .gm = g0
  pp : gr .pp = 0
  rm : row .mem = m0
section
variable {S1 S2 : LV} {K W g0 m0 : Nat} {l p : List Int}
theorem RunSt.rows {i : Nat} {h : List Row} {row : Tg → Nat} {gr : GR → Nat} {C : List Int} (R : RunSt S1 S2 K W l p g0 m0 i h row gr C) : rowOf h 0 0 = some [.i K, S1, .i W, S2] ∧ ∃ r ls ca P nx, rowOf h g0 0 = some [.i K, S1, .i W, S2, .p m0 0 0, .p r 0 0, P, .sl ls 0 0 W 4 W, .i nx, outG 1 ca (grun K l.length W (tkF l) (schF W p) i).ncl, .i (grun K l.length W (tkF l) (schF W p) i).done, .b false] := by
  refine ⟨?_, ?_⟩
  · have := rowOf_at (R.A.hat.at' .pp trivial)
    rw [R.pp] at this; exact this
  · have := R.A.rgm
    rw [R.gm, R.rm, R.nc] at this
    exact ⟨_, _, _, _, _, this⟩
theorem RunSt.step {i : Nat} {h : List Row} {row : Tg → Nat} {gr : GR → Nat} {C : List Int} (R : RunSt S1 S2 K W l p g0 m0 i h row gr C) (k : Nat) (hK : 0 < K ∧ K ≤ 8) (hW : W ≤ 5) (hF : l.length ≤ 8) (hT : ∀ f, f < l.length → 0 < tkF l f ∧ tkF l f ≤ 4) (hi : i ≤ 10000) (hS : SlI l S1) (z1 : eqLV S1 S1 = true) (z2 : eqLV S2 S2 = true) :
    ∃ h' row' gr' C', (if schF W p i = 0 then evF cm (k + 140) 10 [.p g0 0 0] h 0 = some (.tup [], h') else evF cm (k + 140) 11 [.p g0 0 0, .i (schF W p i : Nat)] h 0 = some (.tup [], h')) ∧ RunSt S1 S2 K W l p g0 m0 (i + 1) h' row' gr' C' := by
  have hs := schF_le W p
  have I : CtlI K l.length W (tkF l) (grun K l.length W (tkF l) (schF W p) i) := grun_ctl hK.1 (fun f h => (hT f h).1) hs i
  have Cl := grun_clk (K := K) (F := l.length) (Tk := tkF l) hK.1 (fun f h => (hT f h).1) hs (i + 1)
  have Y' : AX K W (i + 1) (grun K l.length W (tkF l) (schF W p) (i + 1)) := R.Y.gstep I hF hT (hs i) Cl.cl
  have ge : grun K l.length W (tkF l) (schF W p) (i + 1) = gstep l.length W (tkF l) (grun K l.length W (tkF l) (schF W p) i) (schF W p i) := rfl
  obtain ⟨A, Y, nc, gm, pp, rm⟩ := R
  by_cases h0 : schF W p i = 0
  · have ge2 : grun K l.length W (tkF l) (schF W p) (i + 1) = gpub l.length (tkF l) (grun K l.length W (tkF l) (schF W p) i) := by rw [ge]; unfold gstep; rw [if_pos h0]
    obtain ⟨h', row', gr', e, A', a, b, c⟩ := gpub_ok k A I Y hK.2 hF hT hi hS z1 z2
    rw [← ge2] at A'
    refine ⟨h', row', gr', C, ?_, A', Y', ?_, a.trans gm, b.trans pp, c.trans rm⟩
    · rw [if_pos h0, ← gm]; exact e
    · rw [ge2, nc]
      unfold gpub gpub1
      split
      · dsimp only; split <;> rfl
      · split
        · rfl
        · dsimp only; split <;> rfl
  · have ge2 : grun K l.length W (tkF l) (schF W p) (i + 1) = gwork l.length (tkF l) (grun K l.length W (tkF l) (schF W p) i) (schF W p i) := by rw [ge]; unfold gstep; rw [if_neg h0]
    obtain ⟨h', row', gr', C', e, A', ⟨a, b, c⟩, d⟩ := gwork_ok k A I Y hK.2 hF hi hS z1 z2 nc (u := schF W p i) (by omega) (hs i) hW
    rw [← ge2] at A' d
    exact ⟨h', row', gr', C', by rw [if_neg h0, ← gm]; exact e, A', Y', d, a.trans gm, b.trans pp, c.trans rm⟩
end
end Go.Proofs.Ytcmlnjkbdlakfaa
