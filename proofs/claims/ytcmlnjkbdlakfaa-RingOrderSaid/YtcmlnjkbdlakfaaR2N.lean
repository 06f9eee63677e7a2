/- A run at a ring: what is counted, and that each step may be done. -/
import Derived.Test.YtcmlnjkbdlakfaaR2M
set_option linter.unusedSimpArgs false
set_option linter.unusedVariables false
namespace Go.Proofs.Ytcmlnjkbdlakfaa
/-- An operation that may do a step. -/
structure OpOk (g : GM) (i : Nat) (u : Nat) (o : RO) : Prop where
  pc : okPc o
  w : o.w = 0
  n : -(i : Int) - 1 ≤ o.n ∧ o.n ≤ 100
  nf : o.kd = .finish → o.n ≤ 8
  tk : o.kd = .publish → 0 ≤ o.tasks ∧ o.tasks ≤ 4
  un : o.kd = .claim → o.pc = 6 → g.M.lo 0 = u
/-- What is counted. -/
structure AX (K W : Nat) (i : Nat) (g : GM) : Prop where
  n : g.M.n = W + 1
  na : g.M.na = K + 3
  np : g.M.np = K + 1
  nl : g.M.nl = 1
  ops : g.M.ops ≤ i
  av : ∀ a, -(i : Int) ≤ g.M.av a ∧ g.M.av a ≤ 100
  cl : g.M.cl = []
  wn : ∀ u o, (g.w u).o = some o → -(i : Int) - 1 ≤ o.n ∧ o.n ≤ 100
  pn : ∀ o, g.pub = some o → -(i : Int) - 1 ≤ o.n ∧ o.n ≤ 100
/-- What a step does to the atoms, and to the operation's number. -/
theorem stepR_av {s : RS} (t : Nat) {i : Int} (h : ∀ a, -i ≤ s.M.av a ∧ s.M.av a ≤ 100) (hi : 0 ≤ i) (hn : -i - 1 ≤ s.o.n ∧ s.o.n ≤ 100) (hf : s.o.kd = .finish → s.o.n ≤ 8) (ht : s.o.kd = .publish → 0 ≤ s.o.tasks ∧ s.o.tasks ≤ 4) (hh : s.R.head ≤ 8) :
    (∀ a, -(i + 1) ≤ (stepR s t).M.av a ∧ (stepR s t).M.av a ≤ 100) ∧ -(i + 1) - 1 ≤ (stepR s t).o.n ∧ (stepR s t).o.n ≤ 100 := by
  have same : ∀ a, -(i + 1) ≤ s.M.av a ∧ s.M.av a ≤ 100 := fun a => by have := h a; omega
  have put : ∀ b x, -(i + 1) ≤ x → x ≤ 100 → ∀ a, -(i + 1) ≤ upd s.M.av b x a ∧ upd s.M.av b x a ≤ 100 := fun b x h1 h2 a => by
    unfold upd; split
    · exact ⟨h1, h2⟩
    · exact same a
  have lck : ∀ b, (s.M.lock t b).av = s.M.av := fun b => by unfold AM.lock; split <;> rfl
  have hl := h (s.R.a + 1)
  obtain ⟨M, R, ⟨kd, pc, w, n, got, tasks, frame⟩⟩ := s
  dsimp only at *
  cases kd with
  | publish =>
    have ht := ht rfl
    simp only [stepR]
    split
    · split <;> exact ⟨same, by dsimp only; omega, by dsimp only; omega⟩
    split
    · exact ⟨same, by dsimp only; omega, by dsimp only; omega⟩
    split
    · exact ⟨put _ _ (by omega) (by omega), by dsimp only; omega, by dsimp only; omega⟩
    · exact ⟨put _ _ (by omega) (by omega), by dsimp only; omega, by dsimp only; omega⟩
  | await =>
    simp only [stepR]
    split <;> exact ⟨same, by dsimp only; omega, by dsimp only; omega⟩
  | stop => exact ⟨put _ _ (by omega) (by omega), by dsimp only [stepR]; omega, by dsimp only [stepR]; omega⟩
  | claim =>
    simp only [stepR]
    split
    · exact ⟨same, by dsimp only; omega, by dsimp only; omega⟩
    split
    · exact ⟨same, by dsimp only; omega, by dsimp only; omega⟩
    split
    · split
      · exact ⟨same, by dsimp only; omega, by dsimp only; omega⟩
      split <;> exact ⟨by dsimp only; rw [lck]; exact same, by dsimp only; omega, by dsimp only; omega⟩
    split
    · split <;> exact ⟨same, by dsimp only; omega, by dsimp only; omega⟩
    split
    · exact ⟨same, by dsimp only; omega, by dsimp only; omega⟩
    split
    · exact ⟨same, by dsimp only; omega, by dsimp only; omega⟩
    split <;> exact ⟨same, by dsimp only; omega, by dsimp only; omega⟩
  | finish =>
    have hf := hf rfl
    have hv := h (R.a + 3 + sl R.k n)
    simp only [stepR]
    split
    · split <;> exact ⟨put _ _ (by omega) (by omega), by dsimp only; omega, by dsimp only; omega⟩
    · exact ⟨put _ _ (by omega) (by omega), by dsimp only; omega, by dsimp only; omega⟩
variable {K F W : Nat} {Tk : Nat → Int} {g : GM} {i : Nat}
theorem OpOk.fits {u : Nat} {o : RO} (H : OpOk g i u o) (I : CtlI K F W Tk g) (Y : AX K W i g) (hF : F ≤ 8) (hi : i ≤ 10000) : FitsR ⟨g.M, g.R, o⟩ u := by
  have hb := I.b
  refine ⟨?_, fun a => ?_, ?_, ?_, ?_, fun h1 h2 => ?_⟩
  · have := H.n; unfold small; dsimp only; omega
  · have := Y.av a; unfold small; dsimp only; omega
  · dsimp only; omega
  · dsimp only; omega
  · have h : o.pc ≤ mxPc o.kd := H.pc
    dsimp only
    revert h
    cases o.kd <;> simp only [mxPc] <;> omega
  · rw [show (RS.mk g.M g.R o).R.l = 0 from I.rk.2.2.2]; exact H.un h1 h2
theorem OpOk.pre {S1 S2 : Go.Proofs.Ytcmlnjkbdlakfaa.LV} {h : List Row} {g' : GM} {C : List Int} {row : Tg → Nat} {gr : GR → Nat} {u : Nat} {o : RO} {ρ : GR} (A : GAt S1 S2 K W h g' C row gr) (hM : g'.M = g.M) (hR : g'.R = g.R) (I : CtlI K F W Tk g) (Y : AX K W i g) (hK : K ≤ 8) (hi : i ≤ 10000) (hu : u ≤ W) (hρ : liveG W g' C ρ) (hr : rowOf h (gr ρ) 0 = some (o.cells (gr .rg))) (hn : ρ ≠ .rg) :
    RPre h g.M row (gr ρ) (gr .rg) u g.R (o.cells (gr .rg)) := by
  obtain ⟨r1, r2, r3, r4⟩ := I.rk
  have := I.kp
  exact ⟨hM ▸ A.mem, hr, hR ▸ A.rrg, hM ▸ A.dis _ hρ, hM ▸ A.dis .rg trivial, A.ne hρ (τ' := .rg) trivial hn, by rw [Y.n]; omega, by rw [r2, r1, Y.na]; omega, by rw [r3, r1, Y.np]; omega, by rw [r4, Y.nl]; omega, by rw [r1]; omega, by rw [Y.na, Y.np, Y.nl]; omega, by have := Y.ops; omega, by rw [Y.cl]; simp⟩
theorem GAt.same {S1 S2 : Go.Proofs.Ytcmlnjkbdlakfaa.LV} {h : List Row} {C : List Int} {row : Tg → Nat} {gr : GR → Nat} (A : GAt S1 S2 K W h g C row gr) (n : Nat) (b : Bool) : GAt S1 S2 K W h { g with ncl := n, wrong := b } C row gr :=
  ⟨A.mem, A.hat.cast fun τ hτ => ⟨hτ, rfl, by cases τ <;> rfl⟩, A.dis⟩
/-- The operation that who publishes has may do a step. -/
theorem CtlI.pok (I : CtlI K F W Tk g) (Y : AX K W i g) (hT : ∀ f, f < F → 0 < Tk f ∧ Tk f ≤ 4) {o : RO} (ho : g.pub = some o) : OpOk g i 0 o := by
  rcases I.pub with ⟨q, _⟩ | ⟨o', q, q1, q2, q3, q4, q5, q6, _⟩
  · rw [ho] at q; cases q
  · rw [ho] at q
    have := Option.some.inj q
    subst this
    refine ⟨?_, q4, Y.pn o ho, fun h => (by rw [q3] at h; cases h), fun _ => ?_, fun h => (by rw [q3] at h; cases h)⟩
    · unfold okPc; rw [q3]; exact q5
    · have := hT g.R.head (by omega)
      rw [q6]; omega
def wop (x : Wk) : RO := match x.o with | some o => o | none => if 0 < x.left then RO.new .finish x.frame 0 else RO.new .claim 0 0
/-- The operation that a worker has, or begins, may do a step. -/
theorem CtlI.wok (I : CtlI K F W Tk g) (Y : AX K W i g) (hF : F ≤ 8) {u : Nat} (h1 : 1 ≤ u) (h2 : u ≤ W) : OpOk g i u (wop (g.w u)) := by
  have hb := I.b
  have hl : ∀ o, (g.w u).o = some o → o.kd = .claim → 3 ≤ o.pc → g.M.lo 0 = u := fun o q1 q2 q3 => (I.lk u h1 h2).1 ⟨o, q1, q2, q3⟩
  have hw : ∀ o, (g.w u).o = some o → wop (g.w u) = o := fun o q => by unfold wop; rw [q]
  have hw0 : (g.w u).o = none → wop (g.w u) = if 0 < (g.w u).left then RO.new .finish (g.w u).frame 0 else RO.new .claim 0 0 := fun q => by unfold wop; rw [q]
  rcases I.wk u h1 h2 with ⟨q1, q2⟩ | ⟨q1, o, q2, q3, q4, q5⟩ | ⟨q1, q2, q3, q4, q5⟩
  · rw [hw0 q2, if_neg (by omega)]
    exact ⟨Nat.zero_le _, rfl, by simp [RO.new]; omega, fun h => (by cases h), fun h => (by cases h), fun _ h => (by cases h)⟩
  · rw [hw o q2]
    refine ⟨?_, q4, Y.wn u o q2, fun h => (by rw [q3] at h; cases h), fun h => (by rw [q3] at h; cases h), fun h6 h7 => hl o q2 q3 (by omega)⟩
    unfold okPc; rw [q3]; simp only [mxPc]; omega
  · rcases q5 with ⟨q5, _⟩ | ⟨o, q5, q6, q7, q8, q9, q10⟩
    · rw [hw0 q5, if_pos q1]
      exact ⟨Nat.zero_le _, rfl, by simp [RO.new]; omega, fun h => by simp [RO.new]; omega, fun h => (by cases h), fun h => (by cases h)⟩
    · rw [hw o q5]
      refine ⟨?_, q7, Y.wn u o q5, fun h => by omega, fun h => (by rw [q6] at h; cases h), fun h => (by rw [q6] at h; cases h)⟩
      unfold okPc; rw [q6]; simp only [mxPc]; omega
/-- What a step of an operation leaves of the counts. -/
theorem AX.stp (Y : AX K W i g) (I : CtlI K F W Tk g) (hF : F ≤ 8) {u : Nat} {o : RO} (H : OpOk g i u o) {g' : GM} (hM : g'.M = (stepR ⟨g.M, g.R, o⟩ u).M) (hc : g'.M.cl = [])
    (hw : ∀ v o', (g'.w v).o = some o' → (g.w v).o = some o' ∨ o' = (stepR ⟨g.M, g.R, o⟩ u).o) (hp : ∀ o', g'.pub = some o' → g.pub = some o' ∨ o' = (stepR ⟨g.M, g.R, o⟩ u).o) : AX K W (i + 1) g' := by
  have k := stepR_keep ⟨g.M, g.R, o⟩ u
  have hb := I.b
  obtain ⟨v1, v2⟩ := stepR_av (s := ⟨g.M, g.R, o⟩) u (i := i) Y.av (by omega) H.n H.nf H.tk (by dsimp only; omega)
  refine ⟨by rw [hM, k.n]; exact Y.n, by rw [hM, k.na]; exact Y.na, by rw [hM, k.np]; exact Y.np, by rw [hM, k.nl]; exact Y.nl, ?_, fun a => ?_, hc, fun v o' h => ?_, fun o' h => ?_⟩
  · rw [hM, k.ops]; have := Y.ops; dsimp only; push_cast; omega
  · rw [hM]; have := v1 a; push_cast; omega
  · rcases hw v o' h with h | h
    · have := Y.wn v o' h; push_cast; omega
    · rw [h]; push_cast; omega
  · rcases hp o' h with h | h
    · have := Y.pn o' h; push_cast; omega
    · rw [h]; push_cast; omega
theorem AX.mono (Y : AX K W i g) : AX K W (i + 1) g :=
  ⟨Y.n, Y.na, Y.np, Y.nl, by have := Y.ops; push_cast; omega, fun a => by have := Y.av a; push_cast; omega, Y.cl, fun u o h => by have := Y.wn u o h; push_cast; omega, fun o h => by have := Y.pn o h; push_cast; omega⟩
theorem upd_o {w : Nat → Wk} {u v : Nat} {x : Wk} {o' : RO} (h : (upd w u x v).o = some o') : (w v).o = some o' ∨ x.o = some o' := by
  by_cases e : v = u
  · subst e; rw [upd_same] at h; exact .inr h
  · rw [upd_ne _ _ e] at h; exact .inl h
theorem AX.gpub1 (Y : AX K W i g) (I : CtlI K F W Tk g) (hF : F ≤ 8) {o : RO} (nx : Nat) (H : OpOk g i 0 o) (hc : (gpub1 g o nx).M.cl = []) : AX K W (i + 1) (gpub1 g o nx) := by
  have hM : (Go.Proofs.Ytcmlnjkbdlakfaa.gpub1 g o nx).M = (stepR ⟨g.M, g.R, o⟩ 0).M := by unfold Go.Proofs.Ytcmlnjkbdlakfaa.gpub1; dsimp only; split <;> rfl
  have hw : (Go.Proofs.Ytcmlnjkbdlakfaa.gpub1 g o nx).w = g.w := by unfold Go.Proofs.Ytcmlnjkbdlakfaa.gpub1; dsimp only; split <;> rfl
  refine Y.stp I hF H hM hc (fun v o' h => .inl (by rw [hw] at h; exact h)) fun o' h => .inr ?_
  unfold Go.Proofs.Ytcmlnjkbdlakfaa.gpub1 at h
  dsimp only at h
  split at h
  · exact (Option.some.inj h).symm
  · cases h
theorem AX.gwork1 (Y : AX K W i g) (I : CtlI K F W Tk g) (hF : F ≤ 8) {u : Nat} {x : Wk} {o : RO} (H : OpOk g i u o) (hc : (gwork1 F Tk g u x o).M.cl = []) : AX K W (i + 1) (gwork1 F Tk g u x o) := by
  have hM : (Go.Proofs.Ytcmlnjkbdlakfaa.gwork1 F Tk g u x o).M = (stepR ⟨g.M, g.R, o⟩ u).M := by unfold Go.Proofs.Ytcmlnjkbdlakfaa.gwork1; dsimp only; (repeat' split) <;> rfl
  have hp : (Go.Proofs.Ytcmlnjkbdlakfaa.gwork1 F Tk g u x o).pub = g.pub := by unfold Go.Proofs.Ytcmlnjkbdlakfaa.gwork1; dsimp only; (repeat' split) <;> rfl
  refine Y.stp I hF H hM hc (fun v o' h => ?_) fun o' h => .inl (by rw [hp] at h; exact h)
  unfold Go.Proofs.Ytcmlnjkbdlakfaa.gwork1 at h
  dsimp only at h
  split at h
  · rcases upd_o h with h | h
    · exact .inl h
    · exact .inr (Option.some.inj h).symm
  split at h
  · rcases upd_o h with h | h
    · exact .inl h
    · cases h
  split at h
  · rcases upd_o h with h | h
    · exact .inl h
    · cases h
  · rcases upd_o h with h | h
    · exact .inl h
    · cases h
theorem gwork_op (x : Wk) : (match x.o with | some o => o | none => if 0 < x.left then RO.new .finish x.frame 0 else RO.new .claim 0 0) = wop x := rfl
theorem CtlI.newok (I : CtlI K F W Tk g) (hT : ∀ f, f < F → 0 < Tk f ∧ Tk f ≤ 4) (hn : ¬ F ≤ g.next) : OpOk g i 0 (RO.new .publish 0 (Tk g.next)) := by
  have := hT g.next (by omega)
  exact ⟨Nat.zero_le _, rfl, by simp [RO.new]; omega, fun h => (by cases h), fun _ => by simp [RO.new]; omega, fun h => (by cases h)⟩
theorem AX.gstep (Y : AX K W i g) (I : CtlI K F W Tk g) (hF : F ≤ 8) (hT : ∀ f, f < F → 0 < Tk f ∧ Tk f ≤ 4) {u : Nat} (h2 : u ≤ W) (hc : (gstep F W Tk g u).M.cl = []) : AX K W (i + 1) (gstep F W Tk g u) := by
  unfold Go.Proofs.Ytcmlnjkbdlakfaa.gstep at hc ⊢
  split at hc
  · rename_i e
    rw [if_pos e]
    unfold gpub at hc ⊢
    cases hp : g.pub with
    | some o => rw [hp] at hc; exact Y.gpub1 I hF _ (I.pok Y hT hp) hc
    | none =>
      rw [hp] at hc
      dsimp only at hc ⊢
      split at hc
      · rename_i e; rw [if_pos e]; exact Y.mono
      · rename_i e; rw [if_neg e]; exact Y.gpub1 I hF _ (I.newok hT e) hc
  · rename_i e
    rw [if_neg e]
    have h1 : 1 ≤ u := by omega
    unfold gwork at hc ⊢
    dsimp only at hc ⊢
    split at hc
    · rename_i e
      rw [if_pos e]
      refine ⟨Y.n, Y.na, Y.np, Y.nl, ?_, fun a => ?_, hc, fun v o h => ?_, fun o h => ?_⟩
      · have := Y.ops
        show g.M.ops + 1 ≤ _
        push_cast; omega
      · have := Y.av a; push_cast; exact ⟨by show _ ≤ g.M.av a; omega, by show g.M.av a ≤ _; omega⟩
      · have : (g.w v).o = some o := by
          by_cases e : v = u
          · subst e; dsimp only at h; rw [upd_same] at h; exact h
          · dsimp only at h; rw [upd_ne _ _ e] at h; exact h
        have := Y.wn v o this; push_cast; omega
      · have := Y.pn o h; push_cast; omega
    · rename_i e
      rw [if_neg e]
      exact Y.gwork1 I hF (I.wok Y hF h1 h2) hc
theorem ax_new (K W : Nat) : AX K W 0 (GM.new K W) := ⟨rfl, rfl, rfl, rfl, Int.le_refl _, fun a => ⟨by show -((0 : Nat) : Int) ≤ 0; omega, by show (0 : Int) ≤ 100; omega⟩, rfl, fun u o h => (by cases h), fun o h => (by cases h)⟩
end Go.Proofs.Ytcmlnjkbdlakfaa
