/- A run at a ring, by its numbers: what each step keeps, that nothing clashes, that it ends as it should. -/
import Derived.Test.YtcmlnjkbdlakfaaRQ
/- Who publishes and who works at a ring, by their numbers: what each step makes of the run, and what always holds. -/
set_option linter.unusedSimpArgs false
set_option linter.unusedVariables false
namespace Go.Proofs.Ytcmlnjkbdlakfaa
/-- A worker: its operation, the frame that it has, how many of its tasks are left to do, whether it has read the frame's cell. -/
structure Wk where
  o : Option RO
  frame : Int
  left : Int
  read : Bool
/-- A run. -/
structure GM where
  M : AM
  R : RG
  pub : Option RO
  next : Nat
  w : Nat → Wk
  ncl : Nat
  done : Nat
  wrong : Bool
/-- A step of who publishes, of the operation that it has. -/
def gpub1 (g : GM) (o : RO) (nx : Nat) : GM :=
  let s := stepR ⟨g.M, g.R, o⟩ 0
  if s.o.w = 0 then { g with M := s.M, R := s.R, pub := some s.o, next := nx }
  else { g with M := s.M, R := s.R, pub := none, next := nx, wrong := g.wrong || decide (s.o.frame ≠ (nx : Int) - 1) || decide ((s.R.head : Int) ≠ nx) || decide ((g.R.k : Int) < (nx : Int) - g.done) }
def gpub (F : Nat) (Tk : Nat → Int) (g : GM) : GM :=
  match g.pub with
  | some o => gpub1 g o g.next
  | none => if F ≤ g.next then g else gpub1 g (RO.new .publish 0 (Tk g.next)) (g.next + 1)
/-- A worker's step, of the operation that it has. -/
def gwork1 (F : Nat) (Tk : Nat → Int) (g : GM) (t : Nat) (x : Wk) (o : RO) : GM :=
  let s := stepR ⟨g.M, g.R, o⟩ t
  if s.o.w = 0 then { g with M := s.M, R := s.R, w := upd g.w t { x with o := some s.o } }
  else if 0 < x.left then
    { g with M := s.M, R := s.R, w := upd g.w t ⟨none, x.frame, x.left - 1, false⟩, done := if x.left = 1 then g.done + 1 else g.done, wrong := g.wrong || (decide (s.o.w = 1) != decide (x.left = 1)) }
  else if s.o.w = 1 then
    let bad := g.wrong || decide (s.o.frame ≠ (g.ncl : Int)) || decide (s.o.frame ≠ (g.done : Int)) || decide ((F : Int) ≤ s.o.frame)
    { g with M := s.M, R := s.R, w := upd g.w t ⟨none, s.o.frame, if bad then x.left else Tk s.o.frame.toNat, x.read⟩, ncl := g.ncl + 1, wrong := bad }
  else { g with M := s.M, R := s.R, w := upd g.w t { x with o := none } }
def gwork (F : Nat) (Tk : Nat → Int) (g : GM) (t : Nat) : GM :=
  let x := g.w t
  if 0 < x.left ∧ x.read = false then { g with M := g.M.access t (1 + sl g.R.k x.frame) false, w := upd g.w t { x with read := true } }
  else gwork1 F Tk g t x (match x.o with | some o => o | none => if 0 < x.left then RO.new .finish x.frame 0 else RO.new .claim 0 0)
/-- Who has a frame that is not done: it has claimed it, or is about to be told so. -/
def hold (x : Wk) : Prop := 0 < x.left ∨ ∃ o, x.o = some o ∧ o.kd = .claim ∧ (o.pc = 5 ∨ (o.pc = 6 ∧ o.n ≠ -1))
/-- Who has the lock. -/
def lkd (x : Wk) : Prop := ∃ o, x.o = some o ∧ o.kd = .claim ∧ 3 ≤ o.pc
/-- Where a worker may stand: done, dealt, head are what they are. -/
def okW (dn D H : Nat) (Tk : Nat → Int) (av : Nat → Int) (K : Nat) (x : Wk) : Prop :=
  (x.left = 0 ∧ x.o = none) ∨
  (x.left = 0 ∧ ∃ o, x.o = some o ∧ o.kd = .claim ∧ o.w = 0 ∧
    (o.pc = 0 ∨ (o.pc = 1 ∧ 0 ≤ o.n ∧ o.n ≤ dn) ∨ (o.pc = 2 ∧ 0 ≤ o.n ∧ o.n ≤ dn ∧ o.got ≤ H) ∨ (o.pc = 3 ∧ 0 ≤ o.n ∧ o.n ≤ dn ∧ o.n < o.got ∧ o.got ≤ H) ∨
      (o.pc = 4 ∧ o.n = dn ∧ D = dn ∧ o.n < o.got ∧ o.got ≤ H) ∨ (o.pc = 5 ∧ o.n = dn ∧ D = dn + 1 ∧ dn < H ∧ av (3 + sl K dn) = Tk dn) ∨ (o.pc = 6 ∧ (o.n = -1 ∨ (o.n = dn ∧ D = dn + 1 ∧ dn < H ∧ av (3 + sl K dn) = Tk dn))))) ∨
  (0 < x.left ∧ x.frame = dn ∧ D = dn + 1 ∧ dn < H ∧
    (x.o = none ∧ av (3 + sl K dn) = x.left ∨ ∃ o, x.o = some o ∧ o.kd = .finish ∧ o.w = 0 ∧ o.n = dn ∧ x.read = true ∧ ((o.pc = 0 ∧ av (3 + sl K dn) = x.left) ∨ (o.pc = 1 ∧ x.left = 1 ∧ av (3 + sl K dn) = 0))))
/-- What always holds of a run, but for who knows what. -/
structure CtlI (K F W : Nat) (Tk : Nat → Int) (g : GM) : Prop where
  rk : g.R.k = K ∧ g.R.a = 0 ∧ g.R.c = 0 ∧ g.R.l = 0
  kp : 0 < K
  tk : ∀ f, f < F → 0 < Tk f
  wr : g.wrong = false
  a0 : g.M.av 0 = g.R.head
  a1 : g.M.av 1 = g.done
  b : g.done ≤ g.R.dealt ∧ g.R.dealt ≤ g.done + 1 ∧ g.R.dealt ≤ g.R.head ∧ g.R.head ≤ g.done + K ∧ g.R.head ≤ F
  pub : (g.pub = none ∧ g.next = g.R.head) ∨ ∃ o, g.pub = some o ∧ g.next = g.R.head + 1 ∧ g.next ≤ F ∧ o.kd = .publish ∧ o.w = 0 ∧ o.pc ≤ 3 ∧ o.tasks = Tk g.R.head ∧ (1 ≤ o.pc → g.R.head < g.done + K) ∧ (o.pc = 3 → g.M.av (3 + sl K g.R.head) = Tk g.R.head)
  lf : ∀ f, g.R.dealt ≤ f → f < g.R.head → g.M.av (3 + sl K f) = Tk f
  wk : ∀ t, 1 ≤ t → t ≤ W → okW g.done g.R.dealt g.R.head Tk g.M.av K (g.w t)
  one : ∀ t t', 1 ≤ t → t ≤ W → 1 ≤ t' → t' ≤ W → hold (g.w t) → hold (g.w t') → t = t'
  som : g.R.dealt = g.done + 1 → ∃ t, 1 ≤ t ∧ t ≤ W ∧ hold (g.w t)
  lk : ∀ t, 1 ≤ t → t ≤ W → (lkd (g.w t) ↔ g.M.lo 0 = t)
  lk0 : g.M.lo 0 = -1 ∨ ∃ t : Nat, 1 ≤ t ∧ t ≤ W ∧ g.M.lo 0 = t
  nc : (∀ t, 1 ≤ t → t ≤ W → hold (g.w t) → 0 < (g.w t).left) → g.ncl = g.R.dealt
  nc' : ∀ t, 1 ≤ t → t ≤ W → hold (g.w t) → (g.w t).left = 0 → g.ncl = g.done
end Go.Proofs.Ytcmlnjkbdlakfaa
/- A run at a ring: who publishes keeps what always holds. -/
set_option linter.unusedSimpArgs false
set_option linter.unusedVariables false
namespace Go.Proofs.Ytcmlnjkbdlakfaa
theorem sl_ne {K : Nat} (hK : 0 < K) {f f' : Nat} (h : f < f') (h2 : f' < f + K) : sl K f ≠ sl K f' := by
  unfold sl
  intro e
  have h1 := Int.emod_nonneg (f : Int) (b := (K : Int)) (by omega)
  have h3 := Int.emod_nonneg (f' : Int) (b := (K : Int)) (by omega)
  have e' : (f : Int) % K = (f' : Int) % K := by omega
  have h4 : ((f' : Int) - f) % K = 0 := by rw [Int.sub_emod, e', Int.sub_self]; rfl
  have h5 : ((f' : Int) - f) % K = (f' : Int) - f := Int.emod_eq_of_lt (by omega) (by omega)
  omega
theorem okW_mono {dn D H H' K : Nat} {Tk : Nat → Int} {av av' : Nat → Int} {x : Wk} (h : okW dn D H Tk av K x) (hH : H ≤ H') (ha : dn < H → av' (3 + sl K dn) = av (3 + sl K dn)) : okW dn D H' Tk av' K x := by
  rcases h with h | ⟨hl, o, h1, h2, h3, h4⟩ | ⟨hl, h1, h2, h3, h4⟩
  · exact .inl h
  · refine .inr (.inl ⟨hl, o, h1, h2, h3, ?_⟩)
    rcases h4 with h | h | ⟨p, q1, q2, q3⟩ | ⟨p, q1, q2, q3, q4⟩ | ⟨p, q1, q2, q3, q4⟩ | ⟨p, q1, q2, q3, q4⟩ | ⟨p, q⟩
    · exact .inl h
    · exact .inr (.inl h)
    · exact .inr (.inr (.inl ⟨p, q1, q2, by omega⟩))
    · exact .inr (.inr (.inr (.inl ⟨p, q1, q2, q3, by omega⟩)))
    · exact .inr (.inr (.inr (.inr (.inl ⟨p, q1, q2, q3, by omega⟩))))
    · exact .inr (.inr (.inr (.inr (.inr (.inl ⟨p, q1, q2, by omega, by rw [ha q3]; exact q4⟩)))))
    · refine .inr (.inr (.inr (.inr (.inr (.inr ⟨p, ?_⟩)))))
      rcases q with q | ⟨q1, q2, q3, q4⟩
      · exact .inl q
      · exact .inr ⟨q1, q2, by omega, by rw [ha q3]; exact q4⟩
  · refine .inr (.inr ⟨hl, h1, h2, by omega, ?_⟩)
    rw [ha h3]; exact h4
variable {K F W : Nat} {Tk : Nat → Int} {g : GM}
theorem CtlI.pubstep (I : CtlI K F W Tk g) (M' : AM) (H' : Nat) (pub' : Option RO) (next' : Nat) (hlo : M'.lo = g.M.lo) (h0 : M'.av 0 = H') (h1 : M'.av 1 = g.M.av 1) (hH : g.R.head ≤ H' ∧ H' ≤ g.done + K ∧ H' ≤ F)
    (hav : ∀ f : Nat, g.done ≤ f → f < g.R.head → M'.av (3 + sl K f) = g.M.av (3 + sl K f)) (hnew : ∀ f : Nat, g.R.head ≤ f → f < H' → M'.av (3 + sl K f) = Tk f)
    (hp : (pub' = none ∧ next' = H') ∨ ∃ o, pub' = some o ∧ next' = H' + 1 ∧ next' ≤ F ∧ o.kd = .publish ∧ o.w = 0 ∧ o.pc ≤ 3 ∧ o.tasks = Tk H' ∧ (1 ≤ o.pc → H' < g.done + K) ∧ (o.pc = 3 → M'.av (3 + sl K H') = Tk H')) :
    CtlI K F W Tk { g with M := M', R := { g.R with head := H' }, pub := pub', next := next', wrong := false } where
  rk := I.rk
  kp := I.kp
  tk := I.tk
  wr := rfl
  a0 := h0
  a1 := h1.trans I.a1
  b := by have := I.b; exact ⟨this.1, this.2.1, by show g.R.dealt ≤ H'; omega, hH.2.1, hH.2.2⟩
  pub := hp
  lf := fun f h2 h3 => by
    by_cases hf : f < g.R.head
    · exact (hav f (Nat.le_trans I.b.1 h2) hf).trans (I.lf f h2 hf)
    · exact hnew f (by omega) h3
  wk := fun t h2 h3 => okW_mono (I.wk t h2 h3) hH.1 fun h => hav g.done (Nat.le_refl _) h
  one := I.one
  som := I.som
  lk := fun t h2 h3 => by
    show lkd (g.w t) ↔ M'.lo 0 = t
    rw [hlo]; exact I.lk t h2 h3
  lk0 := by
    show M'.lo 0 = -1 ∨ _
    rw [hlo]; exact I.lk0
  nc := I.nc
  nc' := I.nc'
/-- Who publishes keeps it. -/
theorem CtlI.pub1 (I : CtlI K F W Tk g) (o : RO) (nx : Nat) (h : nx = g.R.head + 1 ∧ nx ≤ F ∧ o.kd = .publish ∧ o.w = 0 ∧ o.pc ≤ 3 ∧ o.tasks = Tk g.R.head ∧ (1 ≤ o.pc → g.R.head < g.done + K) ∧ (o.pc = 3 → g.M.av (3 + sl K g.R.head) = Tk g.R.head)) :
    CtlI K F W Tk (gpub1 g o nx) := by
  obtain ⟨rfl, hF, kd, hw, hpc, htk, h1, h3⟩ := h
  obtain ⟨r1, r2, r3, r4⟩ := I.rk
  obtain ⟨b1, b2, b3, b4, b5⟩ := I.b
  have a1 := I.a1
  have hwr := I.wr
  have ra1 : g.R.a + 1 = 1 := by rw [r2]
  have ra3 : g.R.a + 3 = 3 := by rw [r2]
  have rc1 : g.R.c + 1 = 1 := by rw [r3]
  have rsl : sl g.R.k = sl K := by rw [r1]
  have hpcs : o.pc = 0 ∨ o.pc = 1 ∨ o.pc = 2 ∨ o.pc = 3 := by omega
  rcases hpcs with p | p | p | p
  · by_cases hf : (g.R.k : Int) ≤ (g.R.head : Int) - g.M.av 1
    · have e : gpub1 g o (g.R.head + 1) = { g with M := g.M.load 0 1, R := { g.R with head := g.R.head }, pub := some o, next := g.R.head + 1, wrong := false } := by
        simp only [gpub1, stepR, kd, p, if_true, if_pos hf, hw, ra1, ← hwr]
      rw [e]
      exact I.pubstep _ _ _ _ rfl I.a0 rfl ⟨Nat.le_refl _, b4, b5⟩ (fun _ _ _ => rfl) (fun f h4 h5 => by omega) (.inr ⟨o, rfl, rfl, hF, kd, hw, hpc, htk, h1, h3⟩)
    · have e : gpub1 g o (g.R.head + 1) = { g with M := g.M.load 0 1, R := { g.R with head := g.R.head }, pub := some { o with pc := 1 }, next := g.R.head + 1, wrong := false } := by
        simp only [gpub1, stepR, kd, p, if_true, if_neg hf, hw, ra1, ← hwr]
      rw [e]
      rw [a1, r1] at hf
      exact I.pubstep _ _ _ _ rfl I.a0 rfl ⟨Nat.le_refl _, b4, b5⟩ (fun _ _ _ => rfl) (fun f h4 h5 => by omega) (.inr ⟨_, rfl, rfl, hF, kd, hw, by show 1 ≤ 3; omega, htk, fun _ => by omega, fun h => by cases h⟩)
  · have hlt := h1 (by omega)
    have e : gpub1 g o (g.R.head + 1) = { g with M := g.M.access 0 (1 + sl K g.R.head) true, R := { g.R with head := g.R.head }, pub := some { o with pc := 2 }, next := g.R.head + 1, wrong := false } := by
      simp only [gpub1, stepR, kd, p, hw, rc1, rsl, ← hwr, if_true, if_neg (show ¬ (1 : Nat) = 0 by omega)]
    rw [e]
    exact I.pubstep _ _ _ _ rfl I.a0 rfl ⟨Nat.le_refl _, b4, b5⟩ (fun _ _ _ => rfl) (fun f h4 h5 => by omega) (.inr ⟨_, rfl, rfl, hF, kd, hw, by show 2 ≤ 3; omega, htk, fun _ => hlt, fun h => by cases h⟩)
  · have hlt := h1 (by omega)
    have e : gpub1 g o (g.R.head + 1) = { g with M := g.M.store 0 (3 + sl K g.R.head) o.tasks, R := { g.R with head := g.R.head }, pub := some { o with pc := 3 }, next := g.R.head + 1, wrong := false } := by
      simp only [gpub1, stepR, kd, p, hw, ra3, rsl, ← hwr, if_true, if_neg (show ¬ (2 : Nat) = 0 by omega), if_neg (show ¬ (2 : Nat) = 1 by omega)]
    rw [e]
    have av : ∀ i, (g.M.store 0 (3 + sl K g.R.head) o.tasks).av i = if i = 3 + sl K g.R.head then o.tasks else g.M.av i := fun i => rfl
    refine I.pubstep _ _ _ _ rfl ?_ ?_ ⟨Nat.le_refl _, b4, b5⟩ (fun f h4 h5 => ?_) (fun f h4 h5 => by omega) (.inr ⟨_, rfl, rfl, hF, kd, hw, Nat.le_refl _, htk, fun _ => hlt, fun _ => ?_⟩)
    · rw [av, if_neg (by omega)]; exact I.a0
    · rw [av, if_neg (by omega)]
    · rw [av, if_neg (by have := sl_ne I.kp h5 (show g.R.head < f + K by omega); omega)]
    · rw [av, if_pos rfl]; exact htk
  · have hlt := h1 (by omega)
    have e : gpub1 g o (g.R.head + 1) = { g with M := g.M.store 0 0 (g.R.head + 1), R := { g.R with head := g.R.head + 1 }, pub := none, next := g.R.head + 1, wrong := false } := by
      have hb : (g.wrong || decide ((g.R.head : Int) ≠ ((g.R.head + 1 : Nat) : Int) - 1) || decide (((g.R.head + 1 : Nat) : Int) ≠ ((g.R.head + 1 : Nat) : Int)) || decide ((g.R.k : Int) < ((g.R.head + 1 : Nat) : Int) - g.done)) = false := by
        rw [hwr, decide_eq_false (by push_cast; omega), decide_eq_false (by simp), decide_eq_false (by rw [r1]; push_cast; omega)]; rfl
      simp only [gpub1, stepR, kd, p, hw, r2, Nat.zero_add, if_neg (show ¬ (3 : Nat) = 0 by omega), if_neg (show ¬ (3 : Nat) = 1 by omega), if_neg (show ¬ (3 : Nat) = 2 by omega), if_neg (show ¬ (1 : Int) = 0 by omega), hb]
    rw [e]
    have av : ∀ i, (g.M.store 0 0 ((g.R.head : Int) + 1)).av i = if i = 0 then (g.R.head : Int) + 1 else g.M.av i := fun i => rfl
    refine I.pubstep _ _ _ _ rfl ?_ ?_ ⟨by omega, by omega, hF⟩ (fun f h4 h5 => ?_) (fun f h4 h5 => ?_) (.inl ⟨rfl, rfl⟩)
    · rw [av, if_pos rfl]; push_cast; rfl
    · rw [av, if_neg (by omega)]
    · rw [av, if_neg (by omega)]
    · have : f = g.R.head := by omega
      subst this
      rw [av, if_neg (by omega)]; exact h3 p
theorem CtlI.gpub (I : CtlI K F W Tk g) : CtlI K F W Tk (gpub F Tk g) := by
  unfold Go.Proofs.Ytcmlnjkbdlakfaa.gpub
  rcases I.pub with ⟨h1, h2⟩ | ⟨o, h1, h2, h3⟩
  · rw [h1]
    show CtlI K F W Tk (if F ≤ g.next then g else gpub1 g (RO.new .publish 0 (Tk g.next)) (g.next + 1))
    split
    · exact I
    · exact I.pub1 _ _ ⟨by rw [h2], by omega, rfl, rfl, Nat.zero_le _, by rw [h2]; rfl, fun h => absurd h (by show ¬ 1 ≤ 0; omega), fun h => by cases h⟩
  · rw [h1]
    exact I.pub1 o g.next ⟨h2, h3⟩
end Go.Proofs.Ytcmlnjkbdlakfaa
/- A run at a ring: a worker keeps what always holds. -/
set_option linter.unusedSimpArgs false
set_option linter.unusedVariables false
namespace Go.Proofs.Ytcmlnjkbdlakfaa
variable {K F W : Nat} {Tk : Nat → Int} {g : GM}
theorem okW_hold {dn D H K : Nat} {Tk : Nat → Int} {av : Nat → Int} {x : Wk} (h : okW dn D H Tk av K x) (hh : hold x) : D = dn + 1 ∧ dn < H := by
  rcases h with ⟨h1, h2⟩ | ⟨h1, o, h2, h3, _, h4⟩ | ⟨h1, h2, h3, h4, _⟩
  · rcases hh with hh | ⟨o, ho, _⟩
    · omega
    · rw [h2] at ho; cases ho
  · rcases hh with hh | ⟨o', ho, _, hp⟩
    · omega
    · rw [h2] at ho
      simp only [Option.some.injEq] at ho
      subst ho
      rcases h4 with h | ⟨h, _⟩ | ⟨h, _⟩ | ⟨h, _⟩ | ⟨h, _⟩ | ⟨h, _, a, b, _⟩ | ⟨h, c | ⟨_, a, b, _⟩⟩
      · omega
      · omega
      · omega
      · omega
      · omega
      · exact ⟨a, b⟩
      · omega
      · exact ⟨a, b⟩
  · exact ⟨h3, h4⟩
/-- A worker's step that leaves the ring, who is done, and the numbers as they were. -/
theorem CtlI.wstep (I : CtlI K F W Tk g) {t : Nat} (h1 : 1 ≤ t) (h2 : t ≤ W) (M' : AM) (x' : Wk) (hav : M'.av = g.M.av) (hok : okW g.done g.R.dealt g.R.head Tk g.M.av K x') (hh : hold x' ↔ hold (g.w t)) (hleft : hold (g.w t) → (x'.left = 0 ↔ (g.w t).left = 0))
    (hl : ∀ t' : Nat, 1 ≤ t' → t' ≤ W → t' ≠ t → (M'.lo 0 = t' ↔ g.M.lo 0 = t')) (hk : lkd x' ↔ M'.lo 0 = t) (hz : M'.lo 0 = -1 ∨ M'.lo 0 = t ∨ M'.lo 0 = g.M.lo 0) :
    CtlI K F W Tk { g with M := M', w := upd g.w t x', wrong := false } := by
  have hold' : ∀ t', hold (upd g.w t x' t') ↔ hold (g.w t') := fun t' => by
    by_cases e : t' = t
    · subst e; rw [upd_same]; exact hh
    · rw [upd_ne _ _ e]
  refine ⟨I.rk, I.kp, I.tk, rfl, by show M'.av 0 = _; rw [hav]; exact I.a0, by show M'.av 1 = _; rw [hav]; exact I.a1, I.b, ?_, fun f h3 h4 => by show M'.av _ = _; rw [hav]; exact I.lf f h3 h4, fun t' h3 h4 => ?_, fun a b h3 h4 h5 h6 h7 h8 => I.one a b h3 h4 h5 h6 ((hold' a).1 h7) ((hold' b).1 h8), fun h => ?_, fun t' h3 h4 => ?_, ?_, fun h => I.nc fun t' h3 h4 h5 => ?_, fun t' h3 h4 h5 h6 => I.nc' t' h3 h4 ((hold' t').1 h5) ?_⟩
  · have hp := I.pub
    rw [← hav] at hp
    exact hp
  · show okW g.done g.R.dealt g.R.head Tk M'.av K (upd g.w t x' t')
    rw [hav]
    by_cases e : t' = t
    · subst e; rw [upd_same]; exact hok
    · rw [upd_ne _ _ e]; exact I.wk t' h3 h4
  · obtain ⟨t', h3, h4, h5⟩ := I.som h
    exact ⟨t', h3, h4, (hold' t').2 h5⟩
  · show lkd (upd g.w t x' t') ↔ M'.lo 0 = t'
    by_cases e : t' = t
    · subst e; rw [upd_same]; exact hk
    · rw [upd_ne _ _ e, hl t' h3 h4 e]; exact I.lk t' h3 h4
  · show M'.lo 0 = -1 ∨ _
    rcases hz with h | h | h
    · exact .inl h
    · exact .inr ⟨t, h1, h2, h⟩
    · rw [h]; exact I.lk0
  · have := h t' h3 h4 ((hold' t').2 h5)
    by_cases e : t' = t
    · subst e
      have h6 : 0 < x'.left := by simpa [upd_same] using this
      have h7 := hleft h5
      have := I.wk t' h3 h4
      rcases this with ⟨h8, _⟩ | ⟨h8, _⟩ | ⟨h8, _⟩
      · have := h7.2 h8; omega
      · have := h7.2 h8; omega
      · exact h8
    · simpa [upd_ne _ _ e] using this
  · by_cases e : t' = t
    · subst e
      have h7 : x'.left = 0 := by simpa [upd_same] using h6
      exact (hleft ((hold' t').1 h5)).1 h7
    · simpa [upd_ne _ _ e] using h6
theorem hold_some {x : Wk} {o : RO} (hx : x.left = 0) (hk : o.kd = .claim) : hold { x with o := some o } ↔ (o.pc = 5 ∨ (o.pc = 6 ∧ o.n ≠ -1)) := by
  constructor
  · rintro (h | ⟨o', h1, h2, h3⟩)
    · exact absurd h (by show ¬ 0 < x.left; omega)
    · simp only [Option.some.injEq] at h1; subst h1; exact h3
  · intro h; exact .inr ⟨o, rfl, hk, h⟩
theorem lkd_some {x : Wk} {o : RO} (hk : o.kd = .claim) : lkd { x with o := some o } ↔ 3 ≤ o.pc := by
  constructor
  · rintro ⟨o', h1, h2, h3⟩
    simp only [Option.some.injEq] at h1; subst h1; exact h3
  · intro h; exact ⟨o, rfl, hk, h⟩
theorem hold_none {x : Wk} (hx : x.left = 0) : ¬ hold { x with o := none } := by
  rintro (h | ⟨o', h1, _⟩)
  · exact absurd h (by show ¬ 0 < x.left; omega)
  · cases h1
theorem lkd_none {x : Wk} : ¬ lkd { x with o := none } := by
  rintro ⟨o', h1, _⟩; cases h1
/-- A step of a claim that is not done by it, and deals nothing. -/
theorem claim_go (I : CtlI K F W Tk g) {t : Nat} (h1 : 1 ≤ t) (h2 : t ≤ W) (o o' : RO) (M' : AM) (hx : (g.w t).left = 0) (kd : o'.kd = .claim) (hw : o'.w = 0) (hav : M'.av = g.M.av)
    (hc : o'.pc = 0 ∨ (o'.pc = 1 ∧ 0 ≤ o'.n ∧ o'.n ≤ g.done) ∨ (o'.pc = 2 ∧ 0 ≤ o'.n ∧ o'.n ≤ g.done ∧ o'.got ≤ g.R.head) ∨ (o'.pc = 3 ∧ 0 ≤ o'.n ∧ o'.n ≤ g.done ∧ o'.n < o'.got ∧ o'.got ≤ g.R.head) ∨
      (o'.pc = 4 ∧ o'.n = g.done ∧ g.R.dealt = g.done ∧ o'.n < o'.got ∧ o'.got ≤ g.R.head) ∨ (o'.pc = 5 ∧ o'.n = g.done ∧ g.R.dealt = g.done + 1 ∧ g.done < g.R.head ∧ g.M.av (3 + sl K g.done) = Tk g.done) ∨ (o'.pc = 6 ∧ (o'.n = -1 ∨ (o'.n = g.done ∧ g.R.dealt = g.done + 1 ∧ g.done < g.R.head ∧ g.M.av (3 + sl K g.done) = Tk g.done))))
    (hh : hold (g.w t) ↔ (o'.pc = 5 ∨ (o'.pc = 6 ∧ o'.n ≠ -1)))
    (hl : ∀ t' : Nat, 1 ≤ t' → t' ≤ W → t' ≠ t → (M'.lo 0 = t' ↔ g.M.lo 0 = t')) (hk : 3 ≤ o'.pc ↔ M'.lo 0 = t) (hz : M'.lo 0 = -1 ∨ M'.lo 0 = t ∨ M'.lo 0 = g.M.lo 0)
    (e : stepR ⟨g.M, g.R, o⟩ t = ⟨M', g.R, o'⟩) : CtlI K F W Tk (gwork1 F Tk g t (g.w t) o) := by
  have e' : gwork1 F Tk g t (g.w t) o = { g with M := M', w := upd g.w t { g.w t with o := some o' }, wrong := false } := by
    simp only [gwork1, e, hw, if_true, ← I.wr]
  rw [e']
  exact I.wstep h1 h2 M' _ hav (.inr (.inl ⟨hx, o', rfl, kd, hw, hc⟩)) ((hold_some hx kd).trans hh.symm) (fun _ => Iff.rfl) hl ((lkd_some kd).trans hk) hz
/-- A claim that comes to nothing. -/
theorem claim_end (I : CtlI K F W Tk g) {t : Nat} (h1 : 1 ≤ t) (h2 : t ≤ W) (o o' : RO) (M' : AM) (hx : (g.w t).left = 0) (hw : o'.w ≠ 0 ∧ o'.w ≠ 1) (hav : M'.av = g.M.av) (hh : ¬ hold (g.w t))
    (hl : ∀ t' : Nat, 1 ≤ t' → t' ≤ W → t' ≠ t → (M'.lo 0 = t' ↔ g.M.lo 0 = t')) (hk : M'.lo 0 ≠ t) (hz : M'.lo 0 = -1 ∨ M'.lo 0 = t ∨ M'.lo 0 = g.M.lo 0)
    (e : stepR ⟨g.M, g.R, o⟩ t = ⟨M', g.R, o'⟩) : CtlI K F W Tk (gwork1 F Tk g t (g.w t) o) := by
  have e' : gwork1 F Tk g t (g.w t) o = { g with M := M', w := upd g.w t { g.w t with o := none }, wrong := false } := by
    simp only [gwork1, e, if_neg hw.1, if_neg hw.2, hx, if_neg (show ¬ (0 : Int) < 0 by omega), ← I.wr]
  rw [e']
  refine I.wstep h1 h2 M' _ hav (.inl ⟨hx, rfl⟩) ⟨fun h => absurd h (hold_none hx), fun h => absurd h hh⟩ (fun h => absurd h hh) hl ⟨fun h => absurd h lkd_none, fun h => absurd h hk⟩ hz
end Go.Proofs.Ytcmlnjkbdlakfaa
/- A run at a ring: a claim keeps what always holds. -/
set_option linter.unusedSimpArgs false
set_option linter.unusedVariables false
namespace Go.Proofs.Ytcmlnjkbdlakfaa
variable {K F W : Nat} {Tk : Nat → Int} {g : GM}
theorem lock_av (M : AM) (t l : Nat) : (M.lock t l).av = M.av := by unfold AM.lock; split <;> rfl
/-- A frame is dealt. -/
theorem claim_deal (I : CtlI K F W Tk g) {t : Nat} (h1 : 1 ≤ t) (h2 : t ≤ W) (o : RO) (hx : (g.w t).left = 0) (kd : o.kd = .claim) (hw : o.w = 0) (p : o.pc = 4) (hn : o.n = g.done) (hD : g.R.dealt = g.done) (hgn : o.n < o.got) (hgh : o.got ≤ g.R.head)
    (lo : g.M.lo 0 = t) : CtlI K F W Tk (gwork1 F Tk g t (g.w t) o) := by
  obtain ⟨r1, r2, r3, r4⟩ := I.rk
  obtain ⟨b1, b2, b3, b4, b5⟩ := I.b
  have e : stepR ⟨g.M, g.R, o⟩ t = ⟨g.M.access t g.R.c true, { g.R with dealt := g.R.dealt + 1 }, { o with pc := 5 }⟩ := by
    simp only [stepR, kd, p, if_neg (show ¬ (4 : Nat) = 0 by omega), if_neg (show ¬ (4 : Nat) = 1 by omega), if_neg (show ¬ (4 : Nat) = 2 by omega), if_neg (show ¬ (4 : Nat) = 3 by omega), if_true]
  have e' : gwork1 F Tk g t (g.w t) o = { g with M := g.M.access t g.R.c true, R := { g.R with dealt := g.R.dealt + 1 }, w := upd g.w t { g.w t with o := some { o with pc := 5 } }, wrong := false } := by
    simp only [gwork1, e, hw, if_true, ← I.wr]
  rw [e']
  have nh : ∀ t', 1 ≤ t' → t' ≤ W → ¬ hold (g.w t') := fun t' h3 h4 h => by have := (okW_hold (I.wk t' h3 h4) h).1; omega
  have hol : ∀ t', 1 ≤ t' → t' ≤ W → hold (upd g.w t { g.w t with o := some { o with pc := 5 } } t') → t' = t := fun t' h3 h4 h => by
    by_cases e : t' = t
    · exact e
    · rw [upd_ne _ _ e] at h; exact absurd h (nh t' h3 h4)
  have hme : hold (upd g.w t { g.w t with o := some { o with pc := 5 } } t) := by rw [upd_same]; exact (hold_some (o := { o with pc := 5 }) hx kd).2 (.inl rfl)
  have hlf := I.lf g.done (by omega) (by omega)
  refine ⟨⟨r1, r2, r3, r4⟩, I.kp, I.tk, rfl, I.a0, I.a1, ⟨by show g.done ≤ g.R.dealt + 1; omega, by show g.R.dealt + 1 ≤ g.done + 1; omega, by show g.R.dealt + 1 ≤ g.R.head; omega, b4, b5⟩, I.pub, fun f h3 h4 => I.lf f (by have : g.R.dealt + 1 ≤ f := h3; omega) h4, fun t' h3 h4 => ?_, fun a b h3 h4 h5 h6 h7 h8 => (hol a h3 h4 h7).trans (hol b h5 h6 h8).symm, fun _ => ⟨t, h1, h2, hme⟩, fun t' h3 h4 => ?_, I.lk0, fun h => ?_, fun t' h3 h4 h5 h6 => ?_⟩
  · show okW g.done (g.R.dealt + 1) g.R.head Tk g.M.av K (upd g.w t _ t')
    by_cases e : t' = t
    · subst e; rw [upd_same]
      exact .inr (.inl ⟨hx, _, rfl, kd, hw, .inr (.inr (.inr (.inr (.inr (.inl ⟨rfl, hn, by omega, by omega, hlf⟩)))))⟩)
    · rw [upd_ne _ _ e]
      have nl : ¬ lkd (g.w t') := fun h => e (by have := (I.lk t' h3 h4).1 h; rw [lo] at this; omega)
      rcases I.wk t' h3 h4 with h | ⟨a1, o', a2, a3, a4, a5⟩ | ⟨a1, a2, a3, _⟩
      · exact .inl h
      · refine .inr (.inl ⟨a1, o', a2, a3, a4, ?_⟩)
        have : ¬ 3 ≤ o'.pc := fun h => nl ⟨o', a2, a3, h⟩
        rcases a5 with a | a | a | ⟨a, _⟩ | ⟨a, _⟩ | ⟨a, _⟩ | ⟨a, _⟩
        · exact .inl a
        · exact .inr (.inl a)
        · exact .inr (.inr (.inl a))
        all_goals omega
      · omega
  · show lkd (upd g.w t _ t') ↔ g.M.lo 0 = t'
    by_cases e : t' = t
    · subst e; rw [upd_same]; exact ⟨fun _ => lo, fun _ => (lkd_some (o := { o with pc := 5 }) kd).2 (by show 3 ≤ 5; omega)⟩
    · rw [upd_ne _ _ e]; exact I.lk t' h3 h4
  · have h9 : 0 < (upd g.w t { g.w t with o := some { o with pc := 5 } } t).left := h t h1 h2 hme
    rw [upd_same] at h9
    have h9 : 0 < (g.w t).left := h9
    omega
  · have := I.nc fun t' h3 h4 h => absurd h (nh t' h3 h4)
    show g.ncl = g.done
    omega
/-- A claim has its frame. -/
theorem claim_won (I : CtlI K F W Tk g) {t : Nat} (h1 : 1 ≤ t) (h2 : t ≤ W) (o : RO) (hx : (g.w t).left = 0) (kd : o.kd = .claim) (hw : o.w = 0) (p : o.pc = 6) (hn : o.n = g.done) (hD : g.R.dealt = g.done + 1) (hdH : g.done < g.R.head) (hlf : g.M.av (3 + sl K g.done) = Tk g.done)
    (lo : g.M.lo 0 = t) (hh : hold (g.w t)) : CtlI K F W Tk (gwork1 F Tk g t (g.w t) o) := by
  obtain ⟨r1, r2, r3, r4⟩ := I.rk
  obtain ⟨b1, b2, b3, b4, b5⟩ := I.b
  have ncl := I.nc' t h1 h2 hh hx
  have e : stepR ⟨g.M, g.R, o⟩ t = ⟨g.M.unlock t 0, g.R, { o with w := 1, frame := o.n }⟩ := by
    simp only [stepR, kd, p, r4, if_neg (show ¬ (6 : Nat) = 0 by omega), if_neg (show ¬ (6 : Nat) = 1 by omega), if_neg (show ¬ (6 : Nat) = 2 by omega), if_neg (show ¬ (6 : Nat) = 3 by omega), if_neg (show ¬ (6 : Nat) = 4 by omega), if_neg (show ¬ (6 : Nat) = 5 by omega), if_neg (show ¬ o.n = -1 by omega)]
  have hb : (g.wrong || decide (o.n ≠ (g.ncl : Int)) || decide (o.n ≠ (g.done : Int)) || decide ((F : Int) ≤ o.n)) = false := by
    rw [I.wr, decide_eq_false (by omega), decide_eq_false (by omega), decide_eq_false (by omega)]; rfl
  have htk : o.n.toNat = g.done := by omega
  have e' : gwork1 F Tk g t (g.w t) o = { g with M := g.M.unlock t 0, w := upd g.w t ⟨none, o.n, Tk g.done, (g.w t).read⟩, ncl := g.ncl + 1, wrong := false } := by
    simp only [gwork1, e, hx, if_neg (show ¬ (1 : Int) = 0 by omega), if_neg (show ¬ (0 : Int) < 0 by omega), if_true, hb, htk, Bool.false_eq_true, if_false]
  rw [e']
  have pos := I.tk g.done (by omega)
  have hol : ∀ t', 1 ≤ t' → t' ≤ W → (hold (upd g.w t ⟨none, o.n, Tk g.done, (g.w t).read⟩ t') ↔ t' = t) := fun t' h3 h4 => by
    by_cases e : t' = t
    · subst e; rw [upd_same]; exact ⟨fun _ => rfl, fun _ => .inl pos⟩
    · rw [upd_ne _ _ e]; exact ⟨fun h => I.one t' t h3 h4 h1 h2 h hh, fun h => absurd h e⟩
  refine ⟨⟨r1, r2, r3, r4⟩, I.kp, I.tk, rfl, I.a0, I.a1, ⟨b1, b2, b3, b4, b5⟩, I.pub, I.lf, fun t' h3 h4 => ?_, fun a b h3 h4 h5 h6 h7 h8 => ((hol a h3 h4).1 h7).trans ((hol b h5 h6).1 h8).symm, fun _ => ⟨t, h1, h2, (hol t h1 h2).2 rfl⟩, fun t' h3 h4 => ?_, .inl rfl, fun h => ?_, fun t' h3 h4 h5 h6 => ?_⟩
  · show okW g.done g.R.dealt g.R.head Tk g.M.av K (upd g.w t _ t')
    by_cases e : t' = t
    · subst e; rw [upd_same]
      exact .inr (.inr ⟨pos, hn, hD, hdH, .inl ⟨rfl, hlf⟩⟩)
    · rw [upd_ne _ _ e]; exact I.wk t' h3 h4
  · show lkd (upd g.w t _ t') ↔ (-1 : Int) = t'
    by_cases e : t' = t
    · subst e; rw [upd_same]
      exact ⟨fun ⟨o', h, _⟩ => (by cases h), fun h => by omega⟩
    · rw [upd_ne _ _ e]
      refine ⟨fun h => ?_, fun h => by omega⟩
      have := (I.lk t' h3 h4).1 h
      omega
  · show g.ncl + 1 = g.R.dealt
    omega
  · have := (hol t' h3 h4).1 h5
    subst this
    have h6 : (upd g.w t' ⟨none, o.n, Tk g.done, (g.w t').read⟩ t').left = 0 := h6
    rw [upd_same] at h6
    have h6 : Tk g.done = 0 := h6
    omega
end Go.Proofs.Ytcmlnjkbdlakfaa
/- A run at a ring: whoever steps keeps what always holds. -/
set_option linter.unusedSimpArgs false
set_option linter.unusedVariables false
namespace Go.Proofs.Ytcmlnjkbdlakfaa
variable {K F W : Nat} {Tk : Nat → Int} {g : GM}
theorem claim_ok (I : CtlI K F W Tk g) {t : Nat} (h1 : 1 ≤ t) (h2 : t ≤ W) (o : RO) (hx : (g.w t).left = 0) (kd : o.kd = .claim) (hw : o.w = 0)
    (hc : o.pc = 0 ∨ (o.pc = 1 ∧ 0 ≤ o.n ∧ o.n ≤ g.done) ∨ (o.pc = 2 ∧ 0 ≤ o.n ∧ o.n ≤ g.done ∧ o.got ≤ g.R.head) ∨ (o.pc = 3 ∧ 0 ≤ o.n ∧ o.n ≤ g.done ∧ o.n < o.got ∧ o.got ≤ g.R.head) ∨
      (o.pc = 4 ∧ o.n = g.done ∧ g.R.dealt = g.done ∧ o.n < o.got ∧ o.got ≤ g.R.head) ∨ (o.pc = 5 ∧ o.n = g.done ∧ g.R.dealt = g.done + 1 ∧ g.done < g.R.head ∧ g.M.av (3 + sl K g.done) = Tk g.done) ∨ (o.pc = 6 ∧ (o.n = -1 ∨ (o.n = g.done ∧ g.R.dealt = g.done + 1 ∧ g.done < g.R.head ∧ g.M.av (3 + sl K g.done) = Tk g.done))))
    (hh : hold (g.w t) ↔ (o.pc = 5 ∨ (o.pc = 6 ∧ o.n ≠ -1))) (hk : lkd (g.w t) ↔ 3 ≤ o.pc) : CtlI K F W Tk (gwork1 F Tk g t (g.w t) o) := by
  obtain ⟨r1, r2, r3, r4⟩ := I.rk
  obtain ⟨b1, b2, b3, b4, b5⟩ := I.b
  have ra1 : g.R.a + 1 = 1 := by rw [r2]
  have a1 := I.a1
  have a0 := I.a0
  have lo := hk.symm.trans (I.lk t h1 h2)
  have same : ∀ t' : Nat, 1 ≤ t' → t' ≤ W → t' ≠ t → (g.M.lo 0 = t' ↔ g.M.lo 0 = t') := fun _ _ _ _ => Iff.rfl
  rcases hc with p | ⟨p, n0, n1⟩ | ⟨p, n0, n1, gh⟩ | ⟨p, n0, n1, ng, gh⟩ | ⟨p, n0, hD, ng, gh⟩ | ⟨p, n0, hD, hdH, hlf⟩ | ⟨p, hp6⟩
  · refine claim_go I h1 h2 o { o with pc := 1, n := g.M.av 1 } (g.M.load t 1) hx kd hw rfl (.inr (.inl ⟨rfl, by show (0 : Int) ≤ g.M.av 1; omega, by show g.M.av 1 ≤ _; omega⟩)) (hh.trans ⟨fun h => by omega, fun h => by simp at h⟩) same ⟨fun h => by simp at h, fun h => by have := lo.2 h; omega⟩ (.inr (.inr rfl)) ?_
    simp only [stepR, kd, p, ra1, if_true]
  · refine claim_go I h1 h2 o { o with pc := 2, got := g.M.av 0 } (g.M.load t 0) hx kd hw rfl (.inr (.inr (.inl ⟨rfl, n0, n1, by show g.M.av 0 ≤ _; omega⟩))) (hh.trans ⟨fun h => by omega, fun h => by simp at h⟩) same ⟨fun h => by simp at h, fun h => by have := lo.2 h; omega⟩ (.inr (.inr rfl)) ?_
    simp only [stepR, kd, p, r2, if_true, if_neg (show ¬ (1 : Nat) = 0 by omega)]
  · have nh : ¬ hold (g.w t) := fun h => by have := hh.1 h; omega
    have nlo : g.M.lo 0 ≠ t := fun h => by have := lo.2 h; omega
    by_cases hg : o.got ≤ o.n
    · refine claim_end I h1 h2 o { o with w := if g.M.av (g.R.a + 2) = 0 then 2 else 3 } (g.M.load t (g.R.a + 2)) hx ?_ rfl nh same nlo (.inr (.inr rfl)) ?_
      · constructor
        · show (if _ then (2 : Int) else 3) ≠ 0
          split <;> omega
        · show (if _ then (2 : Int) else 3) ≠ 1
          split <;> omega
      · simp only [stepR, kd, p, if_true, if_neg (show ¬ (2 : Nat) = 0 by omega), if_neg (show ¬ (2 : Nat) = 1 by omega), if_pos hg]
    · by_cases hl : g.M.lo 0 = -1
      · have hlo : (g.M.lock t 0).lo 0 = t := by
          unfold AM.lock
          rw [if_pos hl]
          show upd g.M.lo 0 (t : Int) 0 = t
          exact upd_same _ _ _
        refine claim_go I h1 h2 o { o with pc := 3 } (g.M.lock t 0) hx kd hw (lock_av _ _ _) (.inr (.inr (.inr (.inl ⟨rfl, n0, n1, by show o.n < o.got; omega, gh⟩)))) (hh.trans ⟨fun h => by omega, fun h => by simp at h⟩) (fun t' h3 h4 h5 => by rw [hlo, hl]; constructor <;> intro h <;> omega) ⟨fun _ => hlo, fun _ => by show 3 ≤ 3; omega⟩ (.inr (.inl hlo)) ?_
        simp only [stepR, kd, p, r4, if_true, if_neg (show ¬ (2 : Nat) = 0 by omega), if_neg (show ¬ (2 : Nat) = 1 by omega), if_neg hg, if_pos hl]
      · have hlo : (g.M.lock t 0).lo = g.M.lo := by unfold AM.lock; rw [if_neg hl]; rfl
        refine claim_end I h1 h2 o { o with w := 2 } (g.M.lock t 0) hx ⟨by show (2 : Int) ≠ 0; omega, by show (2 : Int) ≠ 1; omega⟩ (lock_av _ _ _) nh (fun t' _ _ _ => by rw [hlo]) (by rw [hlo]; exact nlo) (.inr (.inr (by rw [hlo]))) ?_
        simp only [stepR, kd, p, r4, if_true, if_neg (show ¬ (2 : Nat) = 0 by omega), if_neg (show ¬ (2 : Nat) = 1 by omega), if_neg hg, if_neg hl]
  · have hlo : g.M.lo 0 = t := lo.1 (by omega)
    by_cases hd : (g.R.dealt : Int) = o.n
    · refine claim_go I h1 h2 o { o with pc := 4 } (g.M.access t g.R.c false) hx kd hw rfl (.inr (.inr (.inr (.inr (.inl ⟨rfl, by show o.n = _; omega, by omega, ng, gh⟩))))) (hh.trans ⟨fun h => by omega, fun h => by simp at h⟩) same ⟨fun _ => hlo, fun _ => by show 3 ≤ 4; omega⟩ (.inr (.inr rfl)) ?_
      simp only [stepR, kd, p, if_true, if_neg (show ¬ (3 : Nat) = 0 by omega), if_neg (show ¬ (3 : Nat) = 1 by omega), if_neg (show ¬ (3 : Nat) = 2 by omega), if_pos hd]
    · refine claim_go I h1 h2 o { o with pc := 6, n := -1 } (g.M.access t g.R.c false) hx kd hw rfl (.inr (.inr (.inr (.inr (.inr (.inr ⟨rfl, .inl rfl⟩)))))) (hh.trans ⟨fun h => by omega, fun h => by simp at h⟩) same ⟨fun _ => hlo, fun _ => by show 3 ≤ 6; omega⟩ (.inr (.inr rfl)) ?_
      simp only [stepR, kd, p, if_true, if_neg (show ¬ (3 : Nat) = 0 by omega), if_neg (show ¬ (3 : Nat) = 1 by omega), if_neg (show ¬ (3 : Nat) = 2 by omega), if_neg hd]
  · exact claim_deal I h1 h2 o hx kd hw p n0 hD ng gh (lo.1 (by omega))
  · have hlo : g.M.lo 0 = t := lo.1 (by omega)
    refine claim_go I h1 h2 o { o with pc := 6 } (g.M.access t (g.R.c + 1 + sl g.R.k o.n) false) hx kd hw rfl (.inr (.inr (.inr (.inr (.inr (.inr ⟨rfl, .inr ⟨n0, hD, hdH, hlf⟩⟩)))))) (hh.trans ⟨fun _ => .inr ⟨rfl, by show o.n ≠ -1; omega⟩, fun _ => .inl p⟩) same ⟨fun _ => hlo, fun _ => by show 3 ≤ 6; omega⟩ (.inr (.inr rfl)) ?_
    simp only [stepR, kd, p, if_true, if_neg (show ¬ (5 : Nat) = 0 by omega), if_neg (show ¬ (5 : Nat) = 1 by omega), if_neg (show ¬ (5 : Nat) = 2 by omega), if_neg (show ¬ (5 : Nat) = 3 by omega), if_neg (show ¬ (5 : Nat) = 4 by omega)]
  · have hlo : g.M.lo 0 = t := lo.1 (by omega)
    rcases hp6 with hn | ⟨n0, hD, hdH, hlf⟩
    · refine claim_end I h1 h2 o { o with w := 2 } (g.M.unlock t 0) hx ⟨by show (2 : Int) ≠ 0; omega, by show (2 : Int) ≠ 1; omega⟩ rfl (fun h => by have := hh.1 h; omega) (fun t' h3 h4 h5 => ?_) (by show (-1 : Int) ≠ t; omega) (.inl rfl) ?_
      · show (-1 : Int) = t' ↔ _
        rw [hlo]; constructor <;> intro h <;> omega
      · simp only [stepR, kd, p, r4, hn, if_true, if_neg (show ¬ (6 : Nat) = 0 by omega), if_neg (show ¬ (6 : Nat) = 1 by omega), if_neg (show ¬ (6 : Nat) = 2 by omega), if_neg (show ¬ (6 : Nat) = 3 by omega), if_neg (show ¬ (6 : Nat) = 4 by omega), if_neg (show ¬ (6 : Nat) = 5 by omega)]
    · exact claim_won I h1 h2 o hx kd hw p n0 hD hdH hlf hlo (hh.2 (.inr ⟨p, by omega⟩))
end Go.Proofs.Ytcmlnjkbdlakfaa
/- A run at a ring: who has a frame keeps what always holds; so does every step. -/
set_option linter.unusedSimpArgs false
set_option linter.unusedVariables false
namespace Go.Proofs.Ytcmlnjkbdlakfaa
variable {K F W : Nat} {Tk : Nat → Int} {g : GM}
theorem okW_nohold {dn D H : Nat} {av av' : Nat → Int} {x : Wk} (h : okW dn D H Tk av K x) (hh : ¬ hold x) : okW dn D H Tk av' K x := by
  rcases h with h | ⟨hl, o, h1, h2, h3, h4⟩ | ⟨hl, _⟩
  · exact .inl h
  · refine .inr (.inl ⟨hl, o, h1, h2, h3, ?_⟩)
    rcases h4 with h | h | h | h | h | ⟨p, _⟩ | ⟨p, q | ⟨q1, q2⟩⟩
    · exact .inl h
    · exact .inr (.inl h)
    · exact .inr (.inr (.inl h))
    · exact .inr (.inr (.inr (.inl h)))
    · exact .inr (.inr (.inr (.inr (.inl h))))
    · exact absurd (.inr ⟨o, h1, h2, .inl p⟩) hh
    · exact .inr (.inr (.inr (.inr (.inr (.inr ⟨p, .inl q⟩)))))
    · exact absurd (.inr ⟨o, h1, h2, .inr ⟨p, by omega⟩⟩) hh
  · exact absurd (.inl hl) hh
theorem CtlI.wstep2 (I : CtlI K F W Tk g) {t : Nat} (h1 : 1 ≤ t) (h2 : t ≤ W) (M' : AM) (x' : Wk) (hA : ∀ i, i ≠ 3 + sl K g.done → M'.av i = g.M.av i) (hlo : M'.lo = g.M.lo) (hx : 0 < (g.w t).left) (hx' : 0 < x'.left)
    (hD : g.R.dealt = g.done + 1) (hdH : g.done < g.R.head) (hok : okW g.done g.R.dealt g.R.head Tk M'.av K x') (hk : ¬ lkd x') (hk0 : ¬ lkd (g.w t)) : CtlI K F W Tk { g with M := M', w := upd g.w t x', wrong := false } := by
  obtain ⟨b1, b2, b3, b4, b5⟩ := I.b
  have hme : hold (g.w t) := .inl hx
  have hold' : ∀ t', hold (upd g.w t x' t') ↔ hold (g.w t') := fun t' => by
    by_cases e : t' = t
    · subst e; rw [upd_same]; exact ⟨fun _ => hme, fun _ => .inl hx'⟩
    · rw [upd_ne _ _ e]
  refine ⟨I.rk, I.kp, I.tk, rfl, (hA 0 (by omega)).trans I.a0, (hA 1 (by omega)).trans I.a1, I.b, ?_, fun f h3 h4 => ?_, fun t' h3 h4 => ?_, fun a b h3 h4 h5 h6 h7 h8 => I.one a b h3 h4 h5 h6 ((hold' a).1 h7) ((hold' b).1 h8), fun h => ⟨t, h1, h2, (hold' t).2 hme⟩, fun t' h3 h4 => ?_, ?_, fun h => I.nc fun t' h3 h4 h5 => ?_, fun t' h3 h4 h5 h6 => ?_⟩
  · rcases I.pub with h | ⟨o, p1, p2, p3, p4, p5, p6, p7, p8, p9⟩
    · exact .inl h
    · refine .inr ⟨o, p1, p2, p3, p4, p5, p6, p7, p8, fun h => (hA _ ?_).trans (p9 h)⟩
      have := sl_ne I.kp hdH (p8 (by omega))
      show 3 + sl K g.R.head ≠ 3 + sl K g.done
      omega
  · refine (hA _ ?_).trans (I.lf f h3 h4)
    have := sl_ne I.kp (show g.done < f by have : g.R.dealt ≤ f := h3; omega) (show f < g.done + K by have : f < g.R.head := h4; omega)
    omega
  · show okW g.done g.R.dealt g.R.head Tk M'.av K (upd g.w t x' t')
    by_cases e : t' = t
    · subst e; rw [upd_same]; exact hok
    · rw [upd_ne _ _ e]
      exact okW_nohold (I.wk t' h3 h4) fun h => e (I.one t' t h3 h4 h1 h2 h hme)
  · show lkd (upd g.w t x' t') ↔ M'.lo 0 = t'
    rw [hlo]
    by_cases e : t' = t
    · subst e; rw [upd_same]
      exact ⟨fun h => absurd h hk, fun h => absurd ((I.lk t' h3 h4).2 h) hk0⟩
    · rw [upd_ne _ _ e]; exact I.lk t' h3 h4
  · show M'.lo 0 = -1 ∨ _
    rw [hlo]; exact I.lk0
  · by_cases e : t' = t
    · subst e; exact hx
    · have := h t' h3 h4 ((hold' t').2 h5)
      simpa [upd_ne _ _ e] using this
  · have ht : t' = t := I.one t' t h3 h4 h1 h2 ((hold' t').1 h5) hme
    subst ht
    have h6 : (upd g.w t' x' t').left = 0 := h6
    rw [upd_same] at h6
    omega
/-- A step of who finishes a task. -/
theorem finish_ok (I : CtlI K F W Tk g) {t : Nat} (h1 : 1 ≤ t) (h2 : t ≤ W) (o : RO) (hx : 0 < (g.w t).left) (hfr : (g.w t).frame = g.done) (hrd : (g.w t).read = true) (hD : g.R.dealt = g.done + 1) (hdH : g.done < g.R.head) (kd : o.kd = .finish) (hw : o.w = 0) (hn : o.n = g.done)
    (hp : (o.pc = 0 ∧ g.M.av (3 + sl K g.done) = (g.w t).left) ∨ (o.pc = 1 ∧ (g.w t).left = 1 ∧ g.M.av (3 + sl K g.done) = 0)) (hk0 : ¬ lkd (g.w t)) : CtlI K F W Tk (gwork1 F Tk g t (g.w t) o) := by
  obtain ⟨r1, r2, r3, r4⟩ := I.rk
  obtain ⟨b1, b2, b3, b4, b5⟩ := I.b
  have hs : g.R.a + 3 + sl g.R.k o.n = 3 + sl K g.done := by rw [r1, r2, hn]
  rcases hp with ⟨p, ha⟩ | ⟨p, hl, ha⟩
  · have av : ∀ (y : Int) i, (g.M.add t (3 + sl K g.done) y).av i = if i = 3 + sl K g.done then y else g.M.av i := fun y i => rfl
    by_cases h : g.M.av (3 + sl K g.done) = 1
    · have e : stepR ⟨g.M, g.R, o⟩ t = ⟨g.M.add t (3 + sl K g.done) (g.M.av (3 + sl K g.done) - 1), g.R, { o with pc := 1 }⟩ := by
        simp only [stepR, kd, p, hs, if_true, if_pos h]
      have e' : gwork1 F Tk g t (g.w t) o = { g with M := g.M.add t (3 + sl K g.done) (g.M.av (3 + sl K g.done) - 1), w := upd g.w t { g.w t with o := some { o with pc := 1 } }, wrong := false } := by
        simp only [gwork1, e, hw, if_true, ← I.wr]
      rw [e']
      refine I.wstep2 h1 h2 _ _ (fun i hi => by rw [av, if_neg hi]) rfl hx hx hD hdH (.inr (.inr ⟨hx, hfr, hD, hdH, .inr ⟨_, rfl, kd, hw, hn, hrd, .inr ⟨rfl, by show (g.w t).left = 1; omega, by rw [av, if_pos rfl]; omega⟩⟩⟩)) ?_ hk0
      rintro ⟨o', q1, q2, _⟩
      simp only [Option.some.injEq] at q1
      subst q1
      rw [show ({ o with pc := 1 } : RO).kd = o.kd from rfl, kd] at q2
      cases q2
    · have e : stepR ⟨g.M, g.R, o⟩ t = ⟨g.M.add t (3 + sl K g.done) (g.M.av (3 + sl K g.done) - 1), g.R, { o with w := 2 }⟩ := by
        simp only [stepR, kd, p, hs, if_true, if_neg h]
      have hb : (g.wrong || (decide ((2 : Int) = 1) != decide ((g.w t).left = 1))) = false := by
        rw [I.wr, decide_eq_false (by omega), decide_eq_false (by omega)]
        rfl
      have e' : gwork1 F Tk g t (g.w t) o = { g with M := g.M.add t (3 + sl K g.done) (g.M.av (3 + sl K g.done) - 1), w := upd g.w t ⟨none, (g.w t).frame, (g.w t).left - 1, false⟩, wrong := false } := by
        simp only [gwork1, e, if_neg (show ¬ (2 : Int) = 0 by omega), if_pos hx, if_neg (show ¬ (g.w t).left = 1 by omega), hb]
      rw [e']
      refine I.wstep2 h1 h2 _ _ (fun i hi => by rw [av, if_neg hi]) rfl hx (by show 0 < (g.w t).left - 1; omega) hD hdH (.inr (.inr ⟨by show 0 < (g.w t).left - 1; omega, hfr, hD, hdH, .inl ⟨rfl, by rw [av, if_pos rfl, ha]⟩⟩)) ?_ hk0
      rintro ⟨o', q1, _⟩; cases q1
  · have e : stepR ⟨g.M, g.R, o⟩ t = ⟨g.M.store t 1 (o.n + 1), g.R, { o with w := 1 }⟩ := by
      simp only [stepR, kd, p, r2, if_neg (show ¬ (1 : Nat) = 0 by omega)]
    have hb : (g.wrong || (decide True != decide ((g.w t).left = 1))) = false := by
      rw [I.wr, decide_eq_true hl]; rfl
    have e' : gwork1 F Tk g t (g.w t) o = { g with M := g.M.store t 1 (o.n + 1), w := upd g.w t ⟨none, (g.w t).frame, (g.w t).left - 1, false⟩, done := g.done + 1, wrong := false } := by
      simp only [gwork1, e, if_neg (show ¬ (1 : Int) = 0 by omega), if_pos hx, if_pos hl, hb]
    rw [e']
    have av : ∀ i, (g.M.store t 1 (o.n + 1)).av i = if i = 1 then o.n + 1 else g.M.av i := fun i => rfl
    have hme : hold (g.w t) := .inl hx
    have nh : ∀ t', 1 ≤ t' → t' ≤ W → ¬ hold (upd g.w t ⟨none, (g.w t).frame, (g.w t).left - 1, false⟩ t') := fun t' h3 h4 h => by
      by_cases e : t' = t
      · subst e; rw [upd_same] at h
        rcases h with h | ⟨o', q, _⟩
        · have h : 0 < (g.w t').left - 1 := h
          omega
        · cases q
      · rw [upd_ne _ _ e] at h; exact e (I.one t' t h3 h4 h1 h2 h hme)
    have hnc : g.ncl = g.R.dealt := I.nc fun t' h3 h4 h => by
      have := I.one t' t h3 h4 h1 h2 h hme
      subst this; exact hx
    refine ⟨⟨r1, r2, r3, r4⟩, I.kp, I.tk, rfl, by show (g.M.store t 1 (o.n + 1)).av 0 = _; rw [av, if_neg (by omega)]; exact I.a0, by show (g.M.store t 1 (o.n + 1)).av 1 = _; rw [av, if_pos rfl]; push_cast; omega, ⟨by show g.done + 1 ≤ g.R.dealt; omega, by show g.R.dealt ≤ g.done + 1 + 1; omega, b3, by show g.R.head ≤ g.done + 1 + K; omega, b5⟩, ?_, fun f h3 h4 => ?_, fun t' h3 h4 => ?_, fun a b h3 h4 h5 h6 h7 h8 => absurd h7 (nh a h3 h4), fun h => ?_, fun t' h3 h4 => ?_, I.lk0, fun _ => hnc, fun t' h3 h4 h5 _ => absurd h5 (nh t' h3 h4)⟩
    · rcases I.pub with h | ⟨o', p1, p2, p3, p4, p5, p6, p7, p8, p9⟩
      · exact .inl h
      · refine .inr ⟨o', p1, p2, p3, p4, p5, p6, p7, fun h => ?_, fun h => ?_⟩
        · have := p8 h
          show g.R.head < g.done + 1 + K
          omega
        · show (g.M.store t 1 (o.n + 1)).av _ = _
          rw [av, if_neg (by omega)]; exact p9 h
    · show (g.M.store t 1 (o.n + 1)).av _ = _
      rw [av, if_neg (by omega)]; exact I.lf f h3 h4
    · show okW (g.done + 1) g.R.dealt g.R.head Tk _ K (upd g.w t _ t')
      by_cases e : t' = t
      · subst e; rw [upd_same]; exact .inl ⟨by show (g.w t').left - 1 = 0; omega, rfl⟩
      · rw [upd_ne _ _ e]
        have nht : ¬ hold (g.w t') := fun h => e (I.one t' t h3 h4 h1 h2 h hme)
        rcases I.wk t' h3 h4 with h | ⟨a1, o', a2, a3, a4, a5⟩ | ⟨a1, _⟩
        · exact .inl h
        · refine .inr (.inl ⟨a1, o', a2, a3, a4, ?_⟩)
          rcases a5 with a | ⟨a, c1, c2⟩ | ⟨a, c1, c2, c3⟩ | ⟨a, c1, c2, c3⟩ | ⟨a, c1, c2, c3⟩ | ⟨a, _⟩ | ⟨a, c | ⟨c, _⟩⟩
          · exact .inl a
          · exact .inr (.inl ⟨a, c1, by omega⟩)
          · exact .inr (.inr (.inl ⟨a, c1, by omega, c3⟩))
          · exact .inr (.inr (.inr (.inl ⟨a, c1, by omega, c3⟩)))
          · omega
          · exact absurd (.inr ⟨o', a2, a3, .inl a⟩) nht
          · exact .inr (.inr (.inr (.inr (.inr (.inr ⟨a, .inl c⟩)))))
          · exact absurd (.inr ⟨o', a2, a3, .inr ⟨a, by omega⟩⟩) nht
        · exact absurd (.inl a1) nht
    · have : g.R.dealt = g.done + 1 + 1 := h
      omega
    · show lkd (upd g.w t _ t') ↔ g.M.lo 0 = t'
      by_cases e : t' = t
      · subst e; rw [upd_same]
        exact ⟨fun ⟨o', q, _⟩ => (by cases q), fun h => absurd ((I.lk t' h3 h4).2 h) hk0⟩
      · rw [upd_ne _ _ e]; exact I.lk t' h3 h4
end Go.Proofs.Ytcmlnjkbdlakfaa
/- A run at a ring: every step keeps what always holds. -/
set_option linter.unusedSimpArgs false
set_option linter.unusedVariables false
namespace Go.Proofs.Ytcmlnjkbdlakfaa
variable {K F W : Nat} {Tk : Nat → Int} {g : GM}
theorem wk_eta {x : Wk} {o : RO} (h : x.o = some o) : x = { x with o := some o } := by cases x; simp_all
theorem CtlI.gwork (I : CtlI K F W Tk g) {t : Nat} (h1 : 1 ≤ t) (h2 : t ≤ W) : CtlI K F W Tk (gwork F Tk g t) := by
  have hz := Int.lt_irrefl 0
  rcases I.wk t h1 h2 with ⟨hx, ho⟩ | ⟨hx, o, ho, kd, hw, hc⟩ | ⟨hx, hfr, hD, hdH, hr⟩
  · have e : Go.Proofs.Ytcmlnjkbdlakfaa.gwork F Tk g t = gwork1 F Tk g t (g.w t) (RO.new .claim 0 0) := by
      simp only [Go.Proofs.Ytcmlnjkbdlakfaa.gwork, hx, hz, ho, false_and, if_false]
    rw [e]
    refine claim_ok I h1 h2 _ hx rfl rfl (.inl rfl) ⟨fun h => ?_, fun h => by simp [RO.new] at h⟩ ⟨fun h => ?_, fun h => by simp [RO.new] at h⟩
    · rcases h with h | ⟨o', q, _⟩
      · omega
      · rw [ho] at q; cases q
    · obtain ⟨o', q, _⟩ := h
      rw [ho] at q; cases q
  · have e : Go.Proofs.Ytcmlnjkbdlakfaa.gwork F Tk g t = gwork1 F Tk g t (g.w t) o := by
      simp only [Go.Proofs.Ytcmlnjkbdlakfaa.gwork, hx, hz, ho, false_and, if_false]
    rw [e]
    have he := wk_eta ho
    exact claim_ok I h1 h2 o hx kd hw hc (by rw [he]; exact hold_some hx kd) (by rw [he]; exact lkd_some kd)
  · cases hrd : (g.w t).read with
    | false =>
      have ho : (g.w t).o = none ∧ g.M.av (3 + sl K g.done) = (g.w t).left := by
        rcases hr with h | ⟨o, _, _, _, _, h, _⟩
        · exact h
        · rw [hrd] at h; cases h
      have e : Go.Proofs.Ytcmlnjkbdlakfaa.gwork F Tk g t = { g with M := g.M.access t (1 + sl g.R.k (g.w t).frame) false, w := upd g.w t { g.w t with read := true }, wrong := false } := by
        simp only [Go.Proofs.Ytcmlnjkbdlakfaa.gwork, hx, hrd, and_self, if_true, ← I.wr]
      rw [e]
      have nl : ¬ lkd (g.w t) := fun ⟨o', q, _⟩ => by rw [ho.1] at q; cases q
      refine I.wstep h1 h2 _ _ rfl (.inr (.inr ⟨hx, hfr, hD, hdH, .inl ho⟩)) ⟨fun _ => .inl hx, fun _ => .inl hx⟩ (fun _ => Iff.rfl) (fun _ _ _ _ => Iff.rfl) ⟨fun ⟨o', q, _⟩ => ?_, fun h => absurd ((I.lk t h1 h2).2 h) nl⟩ (.inr (.inr rfl))
      have q : (g.w t).o = some o' := q
      rw [ho.1] at q; cases q
    | true =>
      rcases hr with ⟨ho, ha⟩ | ⟨o, ho, kd, hw, hn, _, hp⟩
      · have e : Go.Proofs.Ytcmlnjkbdlakfaa.gwork F Tk g t = gwork1 F Tk g t (g.w t) (RO.new .finish (g.w t).frame 0) := by
          simp only [Go.Proofs.Ytcmlnjkbdlakfaa.gwork, hx, hrd, ho, Bool.true_eq_false, and_false, if_false, if_true]
        rw [e]
        refine finish_ok I h1 h2 _ hx hfr hrd hD hdH rfl rfl hfr (.inl ⟨rfl, ha⟩) ?_
        rintro ⟨o', q, _⟩
        rw [ho] at q; cases q
      · have e : Go.Proofs.Ytcmlnjkbdlakfaa.gwork F Tk g t = gwork1 F Tk g t (g.w t) o := by
          simp only [Go.Proofs.Ytcmlnjkbdlakfaa.gwork, hx, hrd, ho, Bool.true_eq_false, and_false, if_false]
        rw [e]
        refine finish_ok I h1 h2 o hx hfr hrd hD hdH kd hw hn hp ?_
        rintro ⟨o', q, q2, _⟩
        rw [ho] at q
        simp only [Option.some.injEq] at q
        subst q
        rw [kd] at q2; cases q2
/-- A step of a thread. -/
def gstep (F W : Nat) (Tk : Nat → Int) (g : GM) (t : Nat) : GM := if t = 0 then gpub F Tk g else gwork F Tk g t
theorem CtlI.gstep (I : CtlI K F W Tk g) {t : Nat} (h : t ≤ W) : CtlI K F W Tk (gstep F W Tk g t) := by
  unfold Go.Proofs.Ytcmlnjkbdlakfaa.gstep
  split
  · exact I.gpub
  · exact I.gwork (by omega) h
/-- Where a run begins. -/
def GM.new (K W : Nat) : GM := ⟨AM.new (W + 1) (K + 3) (K + 1) 1, ⟨K, 0, 0, 0, 0, 0⟩, none, 0, fun _ => ⟨none, 0, 0, false⟩, 0, 0, false⟩
theorem ctl_new (hK : 0 < K) (hT : ∀ f, f < F → 0 < Tk f) : CtlI K F W Tk (GM.new K W) := by
  have nh : ∀ t, ¬ hold ((GM.new K W).w t) := fun t h => by
    rcases h with h | ⟨o, q, _⟩
    · exact absurd h (by show ¬ (0 : Int) < 0; omega)
    · cases q
  refine ⟨⟨rfl, rfl, rfl, rfl⟩, hK, hT, rfl, rfl, rfl, ⟨Nat.le_refl _, Nat.zero_le _, Nat.le_refl _, Nat.zero_le _, Nat.zero_le _⟩, .inl ⟨rfl, rfl⟩, fun f h1 h2 => absurd h2 (Nat.not_lt_zero _), fun t _ _ => .inl ⟨rfl, rfl⟩, fun t _ _ _ _ _ h _ => absurd h (nh t), fun h => (by cases h), fun t _ _ => ⟨fun ⟨o, q, _⟩ => (by cases q), fun h => ?_⟩, .inl rfl, fun _ => rfl, fun t _ _ h _ => absurd h (nh t)⟩
  have h : (-1 : Int) = t := h
  omega
end Go.Proofs.Ytcmlnjkbdlakfaa
/- A run at a ring: who knows what, and that nothing clashes. -/
set_option linter.unusedSimpArgs false
set_option linter.unusedVariables false
namespace Go.Proofs.Ytcmlnjkbdlakfaa
def ku (k : Option (Nat → Int)) (u : Nat) : Int := match k with | some f => f u | none => 0
def rdc (M : AM) (p u : Nat) : Int := (M.rw p).1 u
def wrc (M : AM) (p u : Nat) : Int := (M.rw p).2 u
theorem clashes_nil {n p t : Nat} {r w k : Nat → Int} {wr : Bool} (h : ∀ u, u < n → u ≠ t → w u ≤ k u ∧ (wr = true → r u ≤ k u)) : clashes n p t r w k wr = [] := by
  unfold clashes
  rw [List.map_eq_nil_iff, List.filter_eq_nil_iff]
  intro u hu
  rw [List.mem_range] at hu
  unfold clashB
  by_cases e : u = t
  · simp [e]
  · obtain ⟨h1, h2⟩ := h u hu e
    cases wr with
    | false => simp; omega
    | true =>
      have := h2 rfl
      simp; omega
/-- What each knows. -/
structure ClkI (K W : Nat) (g : GM) : Prop where
  wf : g.M.WF
  n : g.M.n = W + 1
  own : ∀ p u, rdc g.M p u ≤ g.M.clk u u ∧ wrc g.M p u ≤ g.M.clk u u
  c0 : ∀ u : Nat, g.M.lo 0 ≠ u → rdc g.M 0 u ≤ ku (g.M.lk 0) u ∧ wrc g.M 0 u ≤ ku (g.M.lk 0) u
  c0o : ∀ t u : Nat, g.M.lo 0 = t → u ≠ t → rdc g.M 0 u ≤ g.M.clk t u ∧ wrc g.M 0 u ≤ g.M.clk t u
  w0 : ∀ s u, u ≠ 0 → wrc g.M (1 + s) u ≤ 0
  hd : ∀ s, (∀ o, g.pub = some o → 2 ≤ o.pc → s ≠ sl K g.R.head) → wrc g.M (1 + s) 0 ≤ ku (g.M.ak 0) 0
  hw : ∀ t, 1 ≤ t → t ≤ W → (hold (g.w t) ∨ ∃ o, (g.w t).o = some o ∧ o.kd = .claim ∧ 2 ≤ o.pc ∧ o.n = g.done ∧ o.n < o.got) → wrc g.M (1 + sl K g.done) 0 ≤ g.M.clk t 0
  r1 : ∀ s u, 1 ≤ u → u ≤ W → (hold (g.w u) → s ≠ sl K g.done) → rdc g.M (1 + s) u ≤ ku (g.M.ak 1) u
  r2 : ∀ t s u, 1 ≤ t → t ≤ W → hold (g.w t) → u ≠ t → 1 ≤ u → u ≤ W → rdc g.M (1 + s) u ≤ g.M.clk t u
  r3 : ∀ t u, 1 ≤ t → t ≤ W → (∃ o, (g.w t).o = some o ∧ o.kd = .claim ∧ 1 ≤ o.pc ∧ o.n = g.done) → ku (g.M.ak 1) u ≤ g.M.clk t u
  pb : ∀ o u, g.pub = some o → o.pc = 1 → 1 ≤ u → u ≤ W → rdc g.M (1 + sl K g.R.head) u ≤ g.M.clk 0 u
  cl : g.M.cl = []
theorem clk_new (K W : Nat) : ClkI K W (GM.new K W) := by
  have nh : ∀ t, ¬ hold ((GM.new K W).w t) := fun t h => by
    rcases h with h | ⟨o, q, _⟩
    · exact absurd h (by show ¬ (0 : Int) < 0; omega)
    · cases q
  refine ⟨wf_new _ _ _ _, rfl, fun p u => ⟨Int.le_refl _, Int.le_refl _⟩, fun u _ => ⟨Int.le_refl _, Int.le_refl _⟩, fun t u _ _ => ⟨Int.le_refl _, Int.le_refl _⟩, fun s u _ => Int.le_refl _, fun s _ => Int.le_refl _, fun t _ _ _ => Int.le_refl _, fun s u _ _ _ => Int.le_refl _, fun t s u _ _ _ _ _ _ => Int.le_refl _, fun t u _ _ _ => Int.le_refl _, fun o u h => (by cases h), rfl⟩
/-- Clocks only grow: whatever was known is known. -/
theorem tick_le (M : AM) (t a u : Nat) : M.clk a u ≤ (M.tick t).clk a u := by
  simp only [AM.tick, upd]
  split
  · rename_i h
    subst h
    simp only [upd]
    split
    · rename_i h; subst h; omega
    · exact Int.le_refl _
  · exact Int.le_refl _
theorem jn_ge (f : Nat → Int) (k : Option (Nat → Int)) (u : Nat) : f u ≤ jn f k u := by
  cases k with
  | none => exact Int.le_refl _
  | some g => simp only [jn]; split <;> omega
theorem jn_ku {f : Nat → Int} (k : Option (Nat → Int)) (u : Nat) (h : 0 ≤ f u) : ku k u ≤ jn f k u := by
  cases k with
  | none => exact h
  | some g => simp only [jn, ku]; split <;> omega
theorem load_le (M : AM) (t b a u : Nat) : M.clk a u ≤ (M.load t b).clk a u := by
  simp only [AM.load, AM.join, upd]
  split
  · rename_i h
    subst h
    exact Int.le_trans (tick_le M a a u) (jn_ge _ _ _)
  · exact tick_le M t a u
theorem load_ku {M : AM} (h : M.WF) (t b u : Nat) : ku (M.ak b) u ≤ (M.load t b).clk t u := by
  simp only [AM.load, AM.join, upd, if_true]
  exact jn_ku _ _ ((wf_tick h t).clk t u).1
end Go.Proofs.Ytcmlnjkbdlakfaa
/- A run at a ring: what a step that touches no cell leaves known. -/
set_option linter.unusedSimpArgs false
set_option linter.unusedVariables false
namespace Go.Proofs.Ytcmlnjkbdlakfaa
variable {K W : Nat} {g : GM}
/-- Slots that who publishes is not about to tell of. -/
def told (K : Nat) (g : GM) (s : Nat) : Prop := ∀ o, g.pub = some o → 2 ≤ o.pc → s ≠ sl K g.R.head
/-- Who knows of the write of the frame that comes next. -/
def sees (g : GM) (t : Nat) : Prop := hold (g.w t) ∨ ∃ o, (g.w t).o = some o ∧ o.kd = .claim ∧ 2 ≤ o.pc ∧ o.n = g.done ∧ o.n < o.got
/-- Who has looked at the tail as it is. -/
def fresh (g : GM) (t : Nat) : Prop := ∃ o, (g.w t).o = some o ∧ o.kd = .claim ∧ 1 ≤ o.pc ∧ o.n = g.done
theorem ClkI.keep (C : ClkI K W g) (g' : GM) (hwf : g'.M.WF) (hn : g'.M.n = g.M.n) (hcl : g'.M.cl = []) (hclk : ∀ a u, g.M.clk a u ≤ g'.M.clk a u) (hpl : g'.M.pl = g.M.pl)
    (k0 : (g'.M.lo 0 = g.M.lo 0 ∧ g'.M.lk 0 = g.M.lk 0) ∨ (∃ t : Nat, g.M.lo 0 = -1 ∧ g'.M.lo 0 = t ∧ g'.M.lk 0 = g.M.lk 0 ∧ ∀ u, ku (g.M.lk 0) u ≤ g'.M.clk t u) ∨ (∃ t : Nat, g.M.lo 0 = t ∧ g'.M.lo 0 = -1 ∧ g'.M.lk 0 = some (g'.M.clk t)))
    (kh : (g'.M.ak 0 = g.M.ak 0 ∧ ∀ s, told K g' s → told K g s) ∨ g'.M.ak 0 = some (g'.M.clk 0))
    (kw : ∀ t, 1 ≤ t → t ≤ W → sees g' t → wrc g.M (1 + sl K g'.done) 0 ≤ g'.M.clk t 0)
    (k1 : (g'.M.ak 1 = g.M.ak 1 ∧ ∀ s u, 1 ≤ u → u ≤ W → (hold (g'.w u) → s ≠ sl K g'.done) → hold (g.w u) → s ≠ sl K g.done) ∨ ∃ t, 1 ≤ t ∧ t ≤ W ∧ hold (g.w t) ∧ g'.M.ak 1 = some (g'.M.clk t))
    (k2 : ∀ t, 1 ≤ t → t ≤ W → hold (g'.w t) → hold (g.w t) ∨ ∀ s u, u ≠ t → 1 ≤ u → u ≤ W → rdc g.M (1 + s) u ≤ g'.M.clk t u)
    (k3 : ∀ t u, 1 ≤ t → t ≤ W → fresh g' t → ku (g'.M.ak 1) u ≤ g'.M.clk t u)
    (kp : ∀ o u, g'.pub = some o → o.pc = 1 → 1 ≤ u → u ≤ W → rdc g.M (1 + sl K g'.R.head) u ≤ g'.M.clk 0 u) : ClkI K W g' := by
  have hr : ∀ p u, rdc g'.M p u = rdc g.M p u := fun p u => by unfold rdc AM.rw; rw [hpl]
  have hw : ∀ p u, wrc g'.M p u = wrc g.M p u := fun p u => by unfold wrc AM.rw; rw [hpl]
  have own' : ∀ p u, rdc g'.M p u ≤ g'.M.clk u u ∧ wrc g'.M p u ≤ g'.M.clk u u := fun p u => by
    rw [hr, hw]
    exact ⟨Int.le_trans (C.own p u).1 (hclk u u), Int.le_trans (C.own p u).2 (hclk u u)⟩
  refine ⟨hwf, hn.trans C.n, own', fun u h => ?_, fun t u h hne => ?_, fun s u h => by rw [hw]; exact C.w0 s u h, fun s h => ?_, fun t h1 h2 h => by rw [hw]; exact kw t h1 h2 h, fun s u h1 h2 h => ?_, fun t s u h1 h2 h hne h3 h4 => ?_, fun t u h1 h2 h => k3 t u h1 h2 h, fun o u h1 h2 h3 h4 => by rw [hr]; exact kp o u h1 h2 h3 h4, hcl⟩
  · rw [hr, hw]
    rcases k0 with ⟨e1, e2⟩ | ⟨t, e1, e2, e3, e4⟩ | ⟨t, e1, e2, e3⟩
    · rw [e1] at h; rw [e2]; exact C.c0 u h
    · rw [e3]; exact C.c0 u (by omega)
    · rw [e3]
      by_cases e : u = t
      · subst e
        exact ⟨Int.le_trans (C.own 0 u).1 (hclk u u), Int.le_trans (C.own 0 u).2 (hclk u u)⟩
      · have := C.c0o t u e1 e
        exact ⟨Int.le_trans this.1 (hclk t u), Int.le_trans this.2 (hclk t u)⟩
  · rw [hr, hw]
    rcases k0 with ⟨e1, e2⟩ | ⟨t', e1, e2, e3, e4⟩ | ⟨t', e1, e2, e3⟩
    · have := C.c0o t u (e1.symm.trans h) hne
      exact ⟨Int.le_trans this.1 (hclk t u), Int.le_trans this.2 (hclk t u)⟩
    · have ht : t' = t := by omega
      subst ht
      have := C.c0 u (by omega)
      exact ⟨Int.le_trans this.1 (e4 u), Int.le_trans this.2 (e4 u)⟩
    · omega
  · rw [hw]
    rcases kh with ⟨e1, e2⟩ | e1
    · rw [e1]; exact C.hd s (e2 s h)
    · rw [e1]; exact Int.le_trans (C.own (1 + s) 0).2 (hclk 0 0)
  · rw [hr]
    rcases k1 with ⟨e1, e2⟩ | ⟨t, e1, e2, e3, e4⟩
    · rw [e1]; exact C.r1 s u h1 h2 (e2 s u h1 h2 h)
    · rw [e4]
      by_cases e : u = t
      · subst e; exact Int.le_trans (C.own (1 + s) u).1 (hclk u u)
      · exact Int.le_trans (C.r2 t s u e1 e2 e3 e h1 h2) (hclk t u)
  · rw [hr]
    rcases k2 t h1 h2 h with h5 | h5
    · exact Int.le_trans (C.r2 t s u h1 h2 h5 hne h3 h4) (hclk t u)
    · exact h5 s u hne h3 h4
end Go.Proofs.Ytcmlnjkbdlakfaa
/- A run at a ring: what a step that touches a cell leaves known. -/
set_option linter.unusedSimpArgs false
set_option linter.unusedVariables false
namespace Go.Proofs.Ytcmlnjkbdlakfaa
variable {K W : Nat} {g : GM}
theorem acc_rd (M : AM) (t p : Nat) (wr : Bool) (p' u : Nat) : rdc (M.access t p wr) p' u = if p' = p ∧ u = t ∧ wr = false then (M.tick t).clk t t else rdc M p' u := by
  unfold rdc AM.access AM.rw
  simp only [upd]
  by_cases e : p' = p
  · subst e
    cases wr with
    | true => simp
    | false =>
      by_cases h : u = t
      · subst h; simp [upd]
      · simp [h, upd]
  · simp [e]
theorem acc_wr (M : AM) (t p : Nat) (wr : Bool) (p' u : Nat) : wrc (M.access t p wr) p' u = if p' = p ∧ u = t ∧ wr = true then (M.tick t).clk t t else wrc M p' u := by
  unfold wrc AM.access AM.rw
  simp only [upd]
  by_cases e : p' = p
  · subst e
    cases wr with
    | false => simp
    | true =>
      by_cases h : u = t
      · subst h; simp [upd]
      · simp [h, upd]
  · simp [e]
theorem ClkI.touch (C : ClkI K W g) (g' : GM) (t p : Nat) (wr : Bool) (hM : g'.M = g.M.access t p wr)
    (hno : ∀ u, u ≤ W → u ≠ t → wrc g.M p u ≤ g.M.clk t u ∧ (wr = true → rdc g.M p u ≤ g.M.clk t u))
    (hp0 : p = 0 → g.M.lo 0 = t) (hw0 : wr = true → p = 0 ∨ t = 0) (hdn : g'.done = g.done) (hhd : g'.R.head = g.R.head)
    (kh : ∀ s, told K g' s → told K g s ∧ (wr = true → t = 0 → p ≠ 1 + s))
    (kw : ∀ t', 1 ≤ t' → t' ≤ W → sees g' t' → sees g t' ∧ (wr = true → t = 0 → p ≠ 1 + sl K g.done))
    (k1 : ∀ s u, 1 ≤ u → u ≤ W → (hold (g'.w u) → s ≠ sl K g.done) → (hold (g.w u) → s ≠ sl K g.done) ∧ (wr = false → u = t → p ≠ 1 + s))
    (k2 : ∀ t', 1 ≤ t' → t' ≤ W → hold (g'.w t') → (hold (g.w t') ∨ ∀ s u, u ≠ t' → 1 ≤ u → u ≤ W → rdc g.M (1 + s) u ≤ g.M.clk t' u) ∧ (wr = false → t ≠ t' → ∀ s, p ≠ 1 + s))
    (k3 : ∀ t', 1 ≤ t' → t' ≤ W → fresh g' t' → fresh g t')
    (kp : ∀ o, g'.pub = some o → o.pc = 1 → (∃ o0, g.pub = some o0 ∧ o0.pc = 1) ∧ (wr = false → p ≠ 1 + sl K g.R.head)) : ClkI K W g' := by
  have hclk : ∀ a u, g.M.clk a u ≤ g'.M.clk a u := fun a u => by rw [hM]; exact tick_le g.M t a u
  have hct : g'.M.clk = (g.M.tick t).clk := by rw [hM]; rfl
  have hlo : g'.M.lo = g.M.lo := by rw [hM]; rfl
  have hlk : g'.M.lk = g.M.lk := by rw [hM]; rfl
  have hak : g'.M.ak = g.M.ak := by rw [hM]; rfl
  have hr : ∀ p' u, rdc g'.M p' u = if p' = p ∧ u = t ∧ wr = false then g'.M.clk t t else rdc g.M p' u := fun p' u => by rw [hct, hM]; exact acc_rd g.M t p wr p' u
  have hw : ∀ p' u, wrc g'.M p' u = if p' = p ∧ u = t ∧ wr = true then g'.M.clk t t else wrc g.M p' u := fun p' u => by rw [hct, hM]; exact acc_wr g.M t p wr p' u
  have rne : ∀ p' u, ¬ (p' = p ∧ u = t ∧ wr = false) → rdc g'.M p' u = rdc g.M p' u := fun p' u h => by rw [hr, if_neg h]
  have wne : ∀ p' u, ¬ (p' = p ∧ u = t ∧ wr = true) → wrc g'.M p' u = wrc g.M p' u := fun p' u h => by rw [hw, if_neg h]
  refine ⟨by rw [hM]; exact wf_access C.wf t p wr, by rw [hM]; exact C.n, fun p' u => ⟨?_, ?_⟩, fun u h => ?_, fun t' u h hn => ?_, fun s u h => ?_, fun s h => ?_, fun t' h1 h2 h => ?_, fun s u h1 h2 h => ?_, fun t' s u h1 h2 h hn h3 h4 => ?_, fun t' u h1 h2 h => ?_, fun o u h1 h2 h3 h4 => ?_, ?_⟩
  · rw [hr]
    split
    · rename_i e; rw [e.2.1]; exact Int.le_refl _
    · exact Int.le_trans (C.own p' u).1 (hclk u u)
  · rw [hw]
    split
    · rename_i e; rw [e.2.1]; exact Int.le_refl _
    · exact Int.le_trans (C.own p' u).2 (hclk u u)
  · rw [hlo] at h
    rw [hlk, rne 0 u fun e => h (by rw [hp0 e.1.symm, e.2.1]), wne 0 u fun e => h (by rw [hp0 e.1.symm, e.2.1])]
    exact C.c0 u h
  · rw [hlo] at h
    have ne : ¬ (0 = p ∧ u = t) := fun e => hn (by have := hp0 e.1.symm; rw [h] at this; omega)
    rw [rne 0 u fun e => ne ⟨e.1, e.2.1⟩, wne 0 u fun e => ne ⟨e.1, e.2.1⟩]
    have := C.c0o t' u h hn
    exact ⟨Int.le_trans this.1 (hclk t' u), Int.le_trans this.2 (hclk t' u)⟩
  · rw [wne (1 + s) u fun e => by
      rcases hw0 e.2.2 with h' | h'
      · omega
      · exact h (e.2.1.trans h')]
    exact C.w0 s u h
  · obtain ⟨h1, h2⟩ := kh s h
    rw [hak, wne (1 + s) 0 fun e => h2 e.2.2 e.2.1.symm e.1.symm]
    exact C.hd s h1
  · obtain ⟨h3, h4⟩ := kw t' h1 h2 h
    rw [hdn, wne (1 + sl K g.done) 0 fun e => h4 e.2.2 e.2.1.symm e.1.symm]
    exact Int.le_trans (C.hw t' h1 h2 h3) (hclk t' 0)
  · rw [hdn] at h
    obtain ⟨h3, h4⟩ := k1 s u h1 h2 h
    rw [hak, rne (1 + s) u fun e => h4 e.2.2 e.2.1 e.1.symm]
    exact C.r1 s u h1 h2 h3
  · obtain ⟨h5, h6⟩ := k2 t' h1 h2 h
    rw [rne (1 + s) u fun e => h6 e.2.2 (fun e' => hn (e.2.1.trans e')) s e.1.symm]
    rcases h5 with h5 | h5
    · exact Int.le_trans (C.r2 t' s u h1 h2 h5 hn h3 h4) (hclk t' u)
    · exact Int.le_trans (h5 s u hn h3 h4) (hclk t' u)
  · rw [hak]
    exact Int.le_trans (C.r3 t' u h1 h2 (k3 t' h1 h2 h)) (hclk t' u)
  · obtain ⟨⟨o0, h5, h6⟩, h7⟩ := kp o h1 h2
    rw [hhd, rne _ u fun e => h7 e.2.2 e.1.symm]
    exact Int.le_trans (C.pb o0 u h5 h6 h3 h4) (hclk 0 u)
  · rw [hM]
    show g.M.cl ++ clashes _ _ _ _ _ _ _ = []
    rw [C.cl, List.nil_append]
    refine clashes_nil fun u hun hu => ?_
    have hun : u < g.M.n := hun
    rw [C.n] at hun
    obtain ⟨h1, h2⟩ := hno u (by omega) hu
    exact ⟨Int.le_trans h1 (tick_le g.M t t u), fun h => Int.le_trans (h2 h) (tick_le g.M t t u)⟩
end Go.Proofs.Ytcmlnjkbdlakfaa
/- A run at a ring: who publishes leaves known what is to be known. -/
set_option linter.unusedSimpArgs false
set_option linter.unusedVariables false
namespace Go.Proofs.Ytcmlnjkbdlakfaa
variable {K F W : Nat} {Tk : Nat → Int} {g : GM}
/-- What a publishing operation is. -/
def okP (K F : Nat) (Tk : Nat → Int) (g : GM) (o : RO) : Prop := g.R.head + 1 ≤ F ∧ o.kd = .publish ∧ o.w = 0 ∧ o.pc ≤ 3 ∧ o.tasks = Tk g.R.head ∧ (1 ≤ o.pc → g.R.head < g.done + K) ∧ (o.pc = 3 → g.M.av (3 + sl K g.R.head) = Tk g.R.head)
theorem gpub1_eq (I : CtlI K F W Tk g) (o : RO) (h : okP K F Tk g o) :
    (o.pc = 0 ∧ gpub1 g o (g.R.head + 1) = { g with M := g.M.load 0 1, pub := some o, next := g.R.head + 1 } ∧ g.done + K ≤ g.R.head) ∨
    (o.pc = 0 ∧ g.R.head < g.done + K ∧ gpub1 g o (g.R.head + 1) = { g with M := g.M.load 0 1, pub := some { o with pc := 1 }, next := g.R.head + 1 }) ∨
    (o.pc = 1 ∧ g.R.head < g.done + K ∧ gpub1 g o (g.R.head + 1) = { g with M := g.M.access 0 (1 + sl K g.R.head) true, pub := some { o with pc := 2 }, next := g.R.head + 1 }) ∨
    (o.pc = 2 ∧ g.R.head < g.done + K ∧ gpub1 g o (g.R.head + 1) = { g with M := g.M.store 0 (3 + sl K g.R.head) o.tasks, pub := some { o with pc := 3 }, next := g.R.head + 1 }) ∨
    (o.pc = 3 ∧ g.R.head < g.done + K ∧ gpub1 g o (g.R.head + 1) = { g with M := g.M.store 0 0 (g.R.head + 1), R := { g.R with head := g.R.head + 1 }, pub := none, next := g.R.head + 1 }) := by
  obtain ⟨hF, kd, hw, hpc, htk, h1, h3⟩ := h
  obtain ⟨r1, r2, r3, r4⟩ := I.rk
  have a1 := I.a1
  have hwr := I.wr
  have ra1 : g.R.a + 1 = 1 := by rw [r2]
  have ra3 : g.R.a + 3 = 3 := by rw [r2]
  have rc1 : g.R.c + 1 = 1 := by rw [r3]
  have rsl : sl g.R.k = sl K := by rw [r1]
  have hpcs : o.pc = 0 ∨ o.pc = 1 ∨ o.pc = 2 ∨ o.pc = 3 := by omega
  rcases hpcs with p | p | p | p
  · by_cases hf : (g.R.k : Int) ≤ (g.R.head : Int) - g.M.av 1
    · refine .inl ⟨p, ?_, ?_⟩
      · simp only [gpub1, stepR, kd, p, if_true, if_pos hf, hw, ra1]
      · rw [a1, r1] at hf; omega
    · refine .inr (.inl ⟨p, ?_, ?_⟩)
      · rw [a1, r1] at hf; omega
      · simp only [gpub1, stepR, kd, p, if_true, if_neg hf, hw, ra1]
  · refine .inr (.inr (.inl ⟨p, h1 (by omega), ?_⟩))
    simp only [gpub1, stepR, kd, p, hw, rc1, rsl, if_true, if_neg (show ¬ (1 : Nat) = 0 by omega)]
  · refine .inr (.inr (.inr (.inl ⟨p, h1 (by omega), ?_⟩)))
    simp only [gpub1, stepR, kd, p, hw, ra3, rsl, if_true, if_neg (show ¬ (2 : Nat) = 0 by omega), if_neg (show ¬ (2 : Nat) = 1 by omega)]
  · have hlt := h1 (by omega)
    refine .inr (.inr (.inr (.inr ⟨p, hlt, ?_⟩)))
    have hb : (g.wrong || decide ((g.R.head : Int) ≠ ((g.R.head + 1 : Nat) : Int) - 1) || decide (((g.R.head + 1 : Nat) : Int) ≠ ((g.R.head + 1 : Nat) : Int)) || decide ((g.R.k : Int) < ((g.R.head + 1 : Nat) : Int) - g.done)) = g.wrong := by
      rw [hwr, decide_eq_false (by push_cast; omega), decide_eq_false (by simp), decide_eq_false (by rw [r1]; push_cast; omega)]; rfl
    simp only [gpub1, stepR, kd, p, hw, r2, Nat.zero_add, if_neg (show ¬ (3 : Nat) = 0 by omega), if_neg (show ¬ (3 : Nat) = 1 by omega), if_neg (show ¬ (3 : Nat) = 2 by omega), if_neg (show ¬ (1 : Int) = 0 by omega), hb]
theorem CtlI.sees_lt (I : CtlI K F W Tk g) {t : Nat} (h1 : 1 ≤ t) (h2 : t ≤ W) (h : sees g t) : g.done < g.R.head := by
  rcases h with h | ⟨o, e1, e2, e3, e4, e5⟩
  · exact (okW_hold (I.wk t h1 h2) h).2
  · rcases I.wk t h1 h2 with ⟨_, h⟩ | ⟨_, o', q1, q2, q3, q4⟩ | ⟨_, _, _, h, _⟩
    · rw [h] at e1; cases e1
    · rw [q1] at e1
      simp only [Option.some.injEq] at e1
      subst e1
      rcases q4 with h | ⟨h, _⟩ | ⟨h, _, _, h4⟩ | ⟨h, _, _, _, h4⟩ | ⟨h, _, _, _, h4⟩ | ⟨h, _, _, h4, _⟩ | ⟨h, q | ⟨_, _, h4, _⟩⟩
      · omega
      · omega
      · omega
      · omega
      · omega
      · exact h4
      · omega
      · exact h4
    · exact h
theorem ClkI.pub1 (I : CtlI K F W Tk g) (C : ClkI K W g) (o : RO) (h : okP K F Tk g o) (hp : g.pub = some o ∨ (g.pub = none ∧ o.pc = 0)) : ClkI K W (gpub1 g o (g.R.head + 1)) := by
  have hpo : ∀ o', g.pub = some o' → o' = o := fun o' e => by
    rcases hp with h | ⟨h, _⟩
    · rw [h] at e; exact (Option.some.inj e).symm
    · rw [h] at e; cases e
  rcases gpub1_eq I o h with ⟨p, e, _⟩ | ⟨p, hlt, e⟩ | ⟨p, hlt, e⟩ | ⟨p, hlt, e⟩ | ⟨p, hlt, e⟩
  · rw [e]
    refine C.keep _ (wf_load C.wf 0 1) rfl C.cl (load_le g.M 0 1) rfl (.inl ⟨rfl, rfl⟩) (.inl ⟨rfl, fun s _ o' e2 e3 => ?_⟩) (fun t h1 h2 h => Int.le_trans (C.hw t h1 h2 h) (load_le g.M 0 1 t 0)) (.inl ⟨rfl, fun s u _ _ h => h⟩) (fun t h1 h2 h => .inl h) (fun t u h1 h2 h => Int.le_trans (C.r3 t u h1 h2 h) (load_le g.M 0 1 t u)) (fun o' u e1 e2 => ?_)
    · rw [hpo o' e2] at e3; omega
    · have := Option.some.inj e1
      subst this; omega
  · rw [e]
    refine C.keep _ (wf_load C.wf 0 1) rfl C.cl (load_le g.M 0 1) rfl (.inl ⟨rfl, rfl⟩) (.inl ⟨rfl, fun s _ o' e2 e3 => ?_⟩) (fun t h1 h2 h => Int.le_trans (C.hw t h1 h2 h) (load_le g.M 0 1 t 0)) (.inl ⟨rfl, fun s u _ _ h => h⟩) (fun t h1 h2 h => .inl h) (fun t u h1 h2 h => Int.le_trans (C.r3 t u h1 h2 h) (load_le g.M 0 1 t u)) (fun o' u e1 e2 h1 h2 => ?_)
    · rw [hpo o' e2] at e3; omega
    · refine Int.le_trans (C.r1 _ u h1 h2 fun hh => ?_) (load_ku C.wf 0 1 u)
      exact (sl_ne I.kp (okW_hold (I.wk u h1 h2) hh).2 hlt).symm
  · rw [e]
    refine C.touch _ 0 (1 + sl K g.R.head) true rfl (fun u hu hne => ⟨?_, fun _ => ?_⟩) (fun h => absurd h (by omega)) (fun _ => .inr rfl) rfl rfl (fun s hs => ⟨fun o' e1 e2 => ?_, fun _ _ e2 => ?_⟩) (fun t' h1 h2 hs => ⟨hs, fun _ _ e2 => ?_⟩) (fun s u h1 h2 h => ⟨h, fun e => (by cases e)⟩) (fun t' h1 h2 h => ⟨.inl h, fun e => (by cases e)⟩) (fun t' h1 h2 h => h) (fun o' e1 e2 => ?_)
    · exact Int.le_trans (C.w0 _ u hne) (C.wf.clk 0 u).1
    · rcases hp with hp | ⟨_, hp⟩
      · exact C.pb o u hp p (by omega) hu
      · omega
    · rw [hpo o' e1] at e2; omega
    · exact hs _ rfl (Nat.le_refl 2) (by show s = sl K g.R.head; omega)
    · have := sl_ne I.kp (I.sees_lt h1 h2 hs) hlt
      omega
    · have := Option.some.inj e1
      subst this
      have e2 : (2 : Nat) = 1 := e2
      omega
  · rw [e]
    have ak : ∀ i, i ≠ 3 + sl K g.R.head → (g.M.store 0 (3 + sl K g.R.head) o.tasks).ak i = g.M.ak i := fun i hi => by
      simp only [AM.store, AM.put, AM.tick, upd, if_neg hi]
    refine C.keep _ (wf_store C.wf 0 _ _) rfl C.cl (tick_le g.M 0) rfl (.inl ⟨rfl, rfl⟩) (.inl ⟨ak 0 (by omega), fun s hs o' e1 e2 => hs _ rfl (show 2 ≤ 3 by omega)⟩) (fun t h1 h2 h => Int.le_trans (C.hw t h1 h2 h) (tick_le g.M 0 t 0)) (.inl ⟨ak 1 (by omega), fun s u _ _ h => h⟩) (fun t h1 h2 h => .inl h) (fun t u h1 h2 h => ?_) (fun o' u e1 e2 => ?_)
    · show ku ((g.M.store 0 (3 + sl K g.R.head) o.tasks).ak 1) u ≤ _
      rw [ak 1 (by omega)]
      exact Int.le_trans (C.r3 t u h1 h2 h) (tick_le g.M 0 t u)
    · have := Option.some.inj e1
      subst this
      have e2 : (3 : Nat) = 1 := e2
      omega
  · rw [e]
    have ak : ∀ i, i ≠ 0 → (g.M.store 0 0 ((g.R.head : Int) + 1)).ak i = g.M.ak i := fun i hi => by
      simp only [AM.store, AM.put, AM.tick, upd, if_neg hi]
    refine C.keep _ (wf_store C.wf 0 _ _) rfl C.cl (tick_le g.M 0) rfl (.inl ⟨rfl, rfl⟩) (.inr rfl) (fun t h1 h2 h => Int.le_trans (C.hw t h1 h2 h) (tick_le g.M 0 t 0)) (.inl ⟨ak 1 (by omega), fun s u _ _ h => h⟩) (fun t h1 h2 h => .inl h) (fun t u h1 h2 h => ?_) (fun o' u e1 e2 => ?_)
    · show ku ((g.M.store 0 0 ((g.R.head : Int) + 1)).ak 1) u ≤ _
      rw [ak 1 (by omega)]
      exact Int.le_trans (C.r3 t u h1 h2 h) (tick_le g.M 0 t u)
    · cases e1
theorem ClkI.gpub (I : CtlI K F W Tk g) (C : ClkI K W g) : ClkI K W (gpub F Tk g) := by
  unfold Go.Proofs.Ytcmlnjkbdlakfaa.gpub
  rcases I.pub with ⟨h1, h2⟩ | ⟨o, h1, h2, h3⟩
  · rw [h1]
    show ClkI K W (if F ≤ g.next then g else gpub1 g (RO.new .publish 0 (Tk g.next)) (g.next + 1))
    split
    · exact C
    · rw [h2]
      exact ClkI.pub1 I C _ ⟨by omega, rfl, rfl, Nat.zero_le _, rfl, fun h => absurd h (by show ¬ 1 ≤ 0; omega), fun h => by cases h⟩ (.inr ⟨h1, rfl⟩)
  · rw [h1]
    show ClkI K W (gpub1 g o g.next)
    rw [h2]
    exact ClkI.pub1 I C o ⟨by omega, h3.2⟩ (.inl h1)
end Go.Proofs.Ytcmlnjkbdlakfaa
/- A run at a ring: what a worker's step may be. -/
set_option linter.unusedSimpArgs false
set_option linter.unusedVariables false
namespace Go.Proofs.Ytcmlnjkbdlakfaa
variable {K F W : Nat} {Tk : Nat → Int} {g : GM}
/-- A worker's step. -/
inductive WS (K : Nat) (Tk : Nat → Int) (g : GM) (t : Nat) (g' : GM) : Prop
  | c0 (o : RO) (hx : (g.w t).left = 0) (ho : (g.w t).o = some o ∨ (g.w t).o = none) (kd : o.kd = .claim) (hw : o.w = 0) (p : o.pc = 0)
      (e : g' = { g with M := g.M.load t 1, w := upd g.w t { g.w t with o := some { o with pc := 1, n := g.done } } })
  | c1 (o : RO) (hx : (g.w t).left = 0) (ho : (g.w t).o = some o) (kd : o.kd = .claim) (hw : o.w = 0) (p : o.pc = 1) (n0 : 0 ≤ o.n) (n1 : o.n ≤ g.done)
      (e : g' = { g with M := g.M.load t 0, w := upd g.w t { g.w t with o := some { o with pc := 2, got := g.R.head } } })
  | c2n (o : RO) (hx : (g.w t).left = 0) (ho : (g.w t).o = some o) (kd : o.kd = .claim) (hw : o.w = 0) (p : o.pc = 2) (n0 : 0 ≤ o.n) (n1 : o.n ≤ g.done) (gh : o.got ≤ g.R.head) (hg : o.got ≤ o.n)
      (e : g' = { g with M := g.M.load t 2, w := upd g.w t { g.w t with o := none } })
  | c2l (o : RO) (hx : (g.w t).left = 0) (ho : (g.w t).o = some o) (kd : o.kd = .claim) (hw : o.w = 0) (p : o.pc = 2) (n0 : 0 ≤ o.n) (n1 : o.n ≤ g.done) (gh : o.got ≤ g.R.head) (hg : o.n < o.got) (hl : g.M.lo 0 = -1)
      (e : g' = { g with M := g.M.lock t 0, w := upd g.w t { g.w t with o := some { o with pc := 3 } } })
  | c2f (o : RO) (hx : (g.w t).left = 0) (ho : (g.w t).o = some o) (kd : o.kd = .claim) (hw : o.w = 0) (p : o.pc = 2) (n0 : 0 ≤ o.n) (n1 : o.n ≤ g.done) (gh : o.got ≤ g.R.head) (hg : o.n < o.got) (hl : g.M.lo 0 ≠ -1)
      (e : g' = { g with M := g.M.lock t 0, w := upd g.w t { g.w t with o := none } })
  | c3y (o : RO) (hx : (g.w t).left = 0) (ho : (g.w t).o = some o) (kd : o.kd = .claim) (hw : o.w = 0) (p : o.pc = 3) (n0 : o.n = g.done) (hD : g.R.dealt = g.done) (hg : o.n < o.got) (gh : o.got ≤ g.R.head) (hl : g.M.lo 0 = t)
      (e : g' = { g with M := g.M.access t 0 false, w := upd g.w t { g.w t with o := some { o with pc := 4 } } })
  | c3n (o : RO) (hx : (g.w t).left = 0) (ho : (g.w t).o = some o) (kd : o.kd = .claim) (hw : o.w = 0) (p : o.pc = 3) (n0 : 0 ≤ o.n) (n1 : o.n ≤ g.done) (hD : (g.R.dealt : Int) ≠ o.n) (hl : g.M.lo 0 = t)
      (e : g' = { g with M := g.M.access t 0 false, w := upd g.w t { g.w t with o := some { o with pc := 6, n := -1 } } })
  | c4 (o : RO) (hx : (g.w t).left = 0) (ho : (g.w t).o = some o) (kd : o.kd = .claim) (hw : o.w = 0) (p : o.pc = 4) (n0 : o.n = g.done) (hD : g.R.dealt = g.done) (hg : o.n < o.got) (gh : o.got ≤ g.R.head) (hl : g.M.lo 0 = t)
      (e : g' = { g with M := g.M.access t 0 true, R := { g.R with dealt := g.R.dealt + 1 }, w := upd g.w t { g.w t with o := some { o with pc := 5 } } })
  | c5 (o : RO) (hx : (g.w t).left = 0) (ho : (g.w t).o = some o) (kd : o.kd = .claim) (hw : o.w = 0) (p : o.pc = 5) (n0 : o.n = g.done) (hD : g.R.dealt = g.done + 1) (hl : g.M.lo 0 = t)
      (e : g' = { g with M := g.M.access t (1 + sl K g.done) false, w := upd g.w t { g.w t with o := some { o with pc := 6 } } })
  | c6n (o : RO) (hx : (g.w t).left = 0) (ho : (g.w t).o = some o) (kd : o.kd = .claim) (hw : o.w = 0) (p : o.pc = 6) (n0 : o.n = -1) (hl : g.M.lo 0 = t)
      (e : g' = { g with M := g.M.unlock t 0, w := upd g.w t { g.w t with o := none } })
  | c6y (o : RO) (hx : (g.w t).left = 0) (ho : (g.w t).o = some o) (kd : o.kd = .claim) (hw : o.w = 0) (p : o.pc = 6) (n0 : o.n = g.done) (hD : g.R.dealt = g.done + 1) (hdH : g.done < g.R.head) (hl : g.M.lo 0 = t)
      (e : g' = { g with M := g.M.unlock t 0, w := upd g.w t ⟨none, g.done, Tk g.done, (g.w t).read⟩, ncl := g.ncl + 1 })
  | rd (hx : 0 < (g.w t).left) (hr : (g.w t).read = false) (ho : (g.w t).o = none) (hf : (g.w t).frame = g.done)
      (e : g' = { g with M := g.M.access t (1 + sl K g.done) false, w := upd g.w t { g.w t with read := true } })
  | f0l (o : RO) (hx : 0 < (g.w t).left) (hr : (g.w t).read = true) (ho : (g.w t).o = some o ∨ (g.w t).o = none) (kd : o.kd = .finish) (hw : o.w = 0) (p : o.pc = 0) (n0 : o.n = g.done) (hl : (g.w t).left = 1) (ha : g.M.av (3 + sl K g.done) = 1)
      (e : g' = { g with M := g.M.add t (3 + sl K g.done) 0, w := upd g.w t { g.w t with o := some { o with pc := 1 } } })
  | f0m (hx : 0 < (g.w t).left) (hr : (g.w t).read = true) (hl : (g.w t).left ≠ 1) (ho : (g.w t).o = none ∨ ∃ o, (g.w t).o = some o ∧ o.kd = .finish ∧ o.pc = 0) (hf : (g.w t).frame = g.done)
      (e : g' = { g with M := g.M.add t (3 + sl K g.done) (g.M.av (3 + sl K g.done) - 1), w := upd g.w t ⟨none, (g.w t).frame, (g.w t).left - 1, false⟩ })
  | f1 (o : RO) (hr : (g.w t).read = true) (ho : (g.w t).o = some o) (kd : o.kd = .finish) (p : o.pc = 1) (hl : (g.w t).left = 1)
      (e : g' = { g with M := g.M.store t 1 (g.done + 1), w := upd g.w t ⟨none, (g.w t).frame, 0, false⟩, done := g.done + 1 })
theorem gwork1_go {t : Nat} {x : Wk} {o : RO} {M' : AM} {R' : RG} {o' : RO} (e : stepR ⟨g.M, g.R, o⟩ t = ⟨M', R', o'⟩) (hw : o'.w = 0) : gwork1 F Tk g t x o = { g with M := M', R := R', w := upd g.w t { x with o := some o' } } := by
  simp only [gwork1, e, hw, if_true]
theorem gwork1_end {t : Nat} {x : Wk} {o : RO} {M' : AM} {R' : RG} {o' : RO} (e : stepR ⟨g.M, g.R, o⟩ t = ⟨M', R', o'⟩) (hw : o'.w ≠ 0 ∧ o'.w ≠ 1) (hx : x.left = 0) : gwork1 F Tk g t x o = { g with M := M', R := R', w := upd g.w t { x with o := none } } := by
  simp only [gwork1, e, if_neg hw.1, if_neg hw.2, hx, if_neg (show ¬ (0 : Int) < 0 by omega)]
theorem ws_claim (I : CtlI K F W Tk g) {t : Nat} (o : RO) (ho : (g.w t).o = some o ∨ ((g.w t).o = none ∧ o.pc = 0)) (hx : (g.w t).left = 0) (kd : o.kd = .claim) (hw : o.w = 0) (h1 : 1 ≤ t) (h2 : t ≤ W)
    (hc : o.pc = 0 ∨ (o.pc = 1 ∧ 0 ≤ o.n ∧ o.n ≤ g.done) ∨ (o.pc = 2 ∧ 0 ≤ o.n ∧ o.n ≤ g.done ∧ o.got ≤ g.R.head) ∨ (o.pc = 3 ∧ 0 ≤ o.n ∧ o.n ≤ g.done ∧ o.n < o.got ∧ o.got ≤ g.R.head) ∨
      (o.pc = 4 ∧ o.n = g.done ∧ g.R.dealt = g.done ∧ o.n < o.got ∧ o.got ≤ g.R.head) ∨ (o.pc = 5 ∧ o.n = g.done ∧ g.R.dealt = g.done + 1 ∧ g.done < g.R.head ∧ g.M.av (3 + sl K g.done) = Tk g.done) ∨ (o.pc = 6 ∧ (o.n = -1 ∨ (o.n = g.done ∧ g.R.dealt = g.done + 1 ∧ g.done < g.R.head ∧ g.M.av (3 + sl K g.done) = Tk g.done)))) :
    WS K Tk g t (gwork1 F Tk g t (g.w t) o) := by
  obtain ⟨r1, r2, r3, r4⟩ := I.rk
  obtain ⟨b1, b2, b3, b4, b5⟩ := I.b
  have ra1 : g.R.a + 1 = 1 := by rw [r2]
  have ra2 : g.R.a + 2 = 2 := by rw [r2]
  have a1 := I.a1
  have a0 := I.a0
  have hos : 1 ≤ o.pc → (g.w t).o = some o := fun h => by
    rcases ho with h' | ⟨_, h'⟩
    · exact h'
    · omega
  have lo : 3 ≤ o.pc → g.M.lo 0 = t := fun h => (I.lk t h1 h2).1 ⟨o, hos (by omega), kd, h⟩
  have n10 : ¬ (1 : Nat) = 0 := by omega
  have n20 : ¬ (2 : Nat) = 0 := by omega
  have n21 : ¬ (2 : Nat) = 1 := by omega
  have n30 : ¬ (3 : Nat) = 0 := by omega
  have n31 : ¬ (3 : Nat) = 1 := by omega
  have n32 : ¬ (3 : Nat) = 2 := by omega
  have n40 : ¬ (4 : Nat) = 0 := by omega
  have n41 : ¬ (4 : Nat) = 1 := by omega
  have n42 : ¬ (4 : Nat) = 2 := by omega
  have n43 : ¬ (4 : Nat) = 3 := by omega
  have n50 : ¬ (5 : Nat) = 0 := by omega
  have n51 : ¬ (5 : Nat) = 1 := by omega
  have n52 : ¬ (5 : Nat) = 2 := by omega
  have n53 : ¬ (5 : Nat) = 3 := by omega
  have n54 : ¬ (5 : Nat) = 4 := by omega
  have n60 : ¬ (6 : Nat) = 0 := by omega
  have n61 : ¬ (6 : Nat) = 1 := by omega
  have n62 : ¬ (6 : Nat) = 2 := by omega
  have n63 : ¬ (6 : Nat) = 3 := by omega
  have n64 : ¬ (6 : Nat) = 4 := by omega
  have n65 : ¬ (6 : Nat) = 5 := by omega
  rcases hc with p | ⟨p, n0, n1⟩ | ⟨p, n0, n1, gh⟩ | ⟨p, n0, n1, ng, gh⟩ | ⟨p, n0, hD, ng, gh⟩ | ⟨p, n0, hD, hdH, hlf⟩ | ⟨p, hp6⟩
  · have e : stepR ⟨g.M, g.R, o⟩ t = ⟨g.M.load t 1, g.R, { o with pc := 1, n := g.done }⟩ := by
      simp only [stepR, kd, p, ra1, a1, if_true]
    exact .c0 o hx (ho.imp id And.left) kd hw p (gwork1_go e hw)
  · have e : stepR ⟨g.M, g.R, o⟩ t = ⟨g.M.load t 0, g.R, { o with pc := 2, got := g.R.head }⟩ := by
      simp only [stepR, kd, p, r2, a0, if_true, if_neg n10]
    exact .c1 o hx (hos (by omega)) kd hw p n0 n1 (gwork1_go e hw)
  · by_cases hg : o.got ≤ o.n
    · have e : stepR ⟨g.M, g.R, o⟩ t = ⟨g.M.load t 2, g.R, { o with w := if g.M.av 2 = 0 then 2 else 3 }⟩ := by
        simp only [stepR, kd, p, ra2, if_true, if_neg n20, if_neg n21, if_pos hg]
      refine .c2n o hx (hos (by omega)) kd hw p n0 n1 gh hg (gwork1_end e ⟨?_, ?_⟩ hx)
      · show (if _ then (2 : Int) else 3) ≠ 0
        split <;> omega
      · show (if _ then (2 : Int) else 3) ≠ 1
        split <;> omega
    · by_cases hl : g.M.lo 0 = -1
      · have e : stepR ⟨g.M, g.R, o⟩ t = ⟨g.M.lock t 0, g.R, { o with pc := 3 }⟩ := by
          simp only [stepR, kd, p, r4, if_true, if_neg n20, if_neg n21, if_neg hg, if_pos hl]
        exact .c2l o hx (hos (by omega)) kd hw p n0 n1 gh (by omega) hl (gwork1_go e hw)
      · have e : stepR ⟨g.M, g.R, o⟩ t = ⟨g.M.lock t 0, g.R, { o with w := 2 }⟩ := by
          simp only [stepR, kd, p, r4, if_true, if_neg n20, if_neg n21, if_neg hg, if_neg hl]
        exact .c2f o hx (hos (by omega)) kd hw p n0 n1 gh (by omega) hl (gwork1_end e ⟨by show (2 : Int) ≠ 0; omega, by show (2 : Int) ≠ 1; omega⟩ hx)
  · by_cases hd : (g.R.dealt : Int) = o.n
    · have e : stepR ⟨g.M, g.R, o⟩ t = ⟨g.M.access t 0 false, g.R, { o with pc := 4 }⟩ := by
        simp only [stepR, kd, p, r3, if_true, if_neg n30, if_neg n31, if_neg n32, if_pos hd]
      exact .c3y o hx (hos (by omega)) kd hw p (by omega) (by omega) ng gh (lo (by omega)) (gwork1_go e hw)
    · have e : stepR ⟨g.M, g.R, o⟩ t = ⟨g.M.access t 0 false, g.R, { o with pc := 6, n := -1 }⟩ := by
        simp only [stepR, kd, p, r3, if_true, if_neg n30, if_neg n31, if_neg n32, if_neg hd]
      exact .c3n o hx (hos (by omega)) kd hw p n0 n1 hd (lo (by omega)) (gwork1_go e hw)
  · have e : stepR ⟨g.M, g.R, o⟩ t = ⟨g.M.access t 0 true, { g.R with dealt := g.R.dealt + 1 }, { o with pc := 5 }⟩ := by
      simp only [stepR, kd, p, r3, if_true, if_neg n40, if_neg n41, if_neg n42, if_neg n43]
    exact .c4 o hx (hos (by omega)) kd hw p n0 hD ng gh (lo (by omega)) (gwork1_go e hw)
  · have e : stepR ⟨g.M, g.R, o⟩ t = ⟨g.M.access t (1 + sl K g.done) false, g.R, { o with pc := 6 }⟩ := by
      simp only [stepR, kd, p, r3, r1, n0, Nat.zero_add, if_true, if_neg n50, if_neg n51, if_neg n52, if_neg n53, if_neg n54]
    exact .c5 o hx (hos (by omega)) kd hw p n0 hD (lo (by omega)) (gwork1_go e hw)
  · rcases hp6 with hn | ⟨n0, hD, hdH, hlf⟩
    · have e : stepR ⟨g.M, g.R, o⟩ t = ⟨g.M.unlock t 0, g.R, { o with w := 2 }⟩ := by
        simp only [stepR, kd, p, r4, hn, if_true, if_neg n60, if_neg n61, if_neg n62, if_neg n63, if_neg n64, if_neg n65]
      exact .c6n o hx (hos (by omega)) kd hw p hn (lo (by omega)) (gwork1_end e ⟨by show (2 : Int) ≠ 0; omega, by show (2 : Int) ≠ 1; omega⟩ hx)
    · have e : stepR ⟨g.M, g.R, o⟩ t = ⟨g.M.unlock t 0, g.R, { o with w := 1, frame := o.n }⟩ := by
        simp only [stepR, kd, p, r4, if_neg n60, if_neg n61, if_neg n62, if_neg n63, if_neg n64, if_neg n65, if_neg (show ¬ o.n = -1 by omega)]
      have ncl := I.nc' t h1 h2 (.inr ⟨o, hos (by omega), kd, .inr ⟨p, by omega⟩⟩) hx
      have hb : (g.wrong || decide (o.n ≠ (g.ncl : Int)) || decide (o.n ≠ (g.done : Int)) || decide ((F : Int) ≤ o.n)) = g.wrong := by
        rw [I.wr, decide_eq_false (by omega), decide_eq_false (by omega), decide_eq_false (by omega)]; rfl
      have htk : o.n.toNat = g.done := by omega
      have hwr := I.wr
      refine .c6y o hx (hos (by omega)) kd hw p n0 hD hdH (lo (by omega)) ?_
      simp only [gwork1, e, hx, if_neg (show ¬ (1 : Int) = 0 by omega), if_neg (show ¬ (0 : Int) < 0 by omega), if_true, hb, htk]
      rw [hwr, n0]
      rfl
theorem ws_finish (I : CtlI K F W Tk g) {t : Nat} (o : RO) (ho : (g.w t).o = some o ∨ ((g.w t).o = none ∧ o.pc = 0)) (hx : 0 < (g.w t).left) (hfr : (g.w t).frame = g.done) (hrd : (g.w t).read = true) (kd : o.kd = .finish) (hw : o.w = 0) (hn : o.n = g.done)
    (hp : (o.pc = 0 ∧ g.M.av (3 + sl K g.done) = (g.w t).left) ∨ (o.pc = 1 ∧ (g.w t).left = 1 ∧ g.M.av (3 + sl K g.done) = 0)) : WS K Tk g t (gwork1 F Tk g t (g.w t) o) := by
  obtain ⟨r1, r2, r3, r4⟩ := I.rk
  have hs : g.R.a + 3 + sl g.R.k o.n = 3 + sl K g.done := by rw [r1, r2, hn]
  have hwr := I.wr
  rcases hp with ⟨p, ha⟩ | ⟨p, hl, ha⟩
  · by_cases h : g.M.av (3 + sl K g.done) = 1
    · have e : stepR ⟨g.M, g.R, o⟩ t = ⟨g.M.add t (3 + sl K g.done) 0, g.R, { o with pc := 1 }⟩ := by
        simp only [stepR, kd, p, hs, if_true, if_pos h]
        rw [h]; rfl
      exact .f0l o hx hrd (ho.imp id And.left) kd hw p hn (by omega) h (gwork1_go e hw)
    · have e : stepR ⟨g.M, g.R, o⟩ t = ⟨g.M.add t (3 + sl K g.done) (g.M.av (3 + sl K g.done) - 1), g.R, { o with w := 2 }⟩ := by
        simp only [stepR, kd, p, hs, if_true, if_neg h]
      have hb : (g.wrong || (decide ((2 : Int) = 1) != decide ((g.w t).left = 1))) = g.wrong := by
        rw [hwr, decide_eq_false (by omega), decide_eq_false (by omega)]
        rfl
      refine .f0m hx hrd (by omega) ?_ hfr ?_
      · rcases ho with h' | ⟨h', _⟩
        · exact .inr ⟨o, h', kd, p⟩
        · exact .inl h'
      · simp only [gwork1, e, if_neg (show ¬ (2 : Int) = 0 by omega), if_pos hx, if_neg (show ¬ (g.w t).left = 1 by omega), hb]
  · have e : stepR ⟨g.M, g.R, o⟩ t = ⟨g.M.store t 1 (g.done + 1), g.R, { o with w := 1 }⟩ := by
      simp only [stepR, kd, p, r2, hn, if_neg (show ¬ (1 : Nat) = 0 by omega)]
    have hb : (g.wrong || (decide True != decide ((g.w t).left = 1))) = g.wrong := by
      rw [hwr, decide_eq_true hl]; rfl
    have ho' : (g.w t).o = some o := by
      rcases ho with h' | ⟨_, h'⟩
      · exact h'
      · omega
    refine .f1 o hrd ho' kd p hl ?_
    simp only [gwork1, e, if_neg (show ¬ (1 : Int) = 0 by omega), if_pos hx, if_pos hl, hb]
    rw [show (g.w t).left - 1 = 0 by omega]
theorem ws_of (I : CtlI K F W Tk g) {t : Nat} (h1 : 1 ≤ t) (h2 : t ≤ W) : WS K Tk g t (gwork F Tk g t) := by
  have hz := Int.lt_irrefl 0
  rcases I.wk t h1 h2 with ⟨hx, ho⟩ | ⟨hx, o, ho, kd, hw, hc⟩ | ⟨hx, hfr, hD, hdH, hr⟩
  · have e : Go.Proofs.Ytcmlnjkbdlakfaa.gwork F Tk g t = gwork1 F Tk g t (g.w t) (RO.new .claim 0 0) := by
      simp only [Go.Proofs.Ytcmlnjkbdlakfaa.gwork, hx, hz, ho, false_and, if_false]
    rw [e]
    exact ws_claim I _ (.inr ⟨ho, rfl⟩) hx rfl rfl h1 h2 (.inl rfl)
  · have e : Go.Proofs.Ytcmlnjkbdlakfaa.gwork F Tk g t = gwork1 F Tk g t (g.w t) o := by
      simp only [Go.Proofs.Ytcmlnjkbdlakfaa.gwork, hx, hz, ho, false_and, if_false]
    rw [e]
    exact ws_claim I o (.inl ho) hx kd hw h1 h2 hc
  · cases hrd : (g.w t).read with
    | false =>
      have ho : (g.w t).o = none := by
        rcases hr with h | ⟨o, _, _, _, _, h, _⟩
        · exact h.1
        · rw [hrd] at h; cases h
      refine .rd hx hrd ho hfr ?_
      simp only [Go.Proofs.Ytcmlnjkbdlakfaa.gwork, hx, hrd, hfr, I.rk.1, and_self, if_true]
    | true =>
      rcases hr with ⟨ho, ha⟩ | ⟨o, ho, kd, hw, hn, _, hp⟩
      · have e : Go.Proofs.Ytcmlnjkbdlakfaa.gwork F Tk g t = gwork1 F Tk g t (g.w t) (RO.new .finish (g.w t).frame 0) := by
          simp only [Go.Proofs.Ytcmlnjkbdlakfaa.gwork, hx, hrd, ho, Bool.true_eq_false, and_false, if_false, if_true]
        rw [e]
        exact ws_finish I _ (.inr ⟨ho, rfl⟩) hx hfr hrd rfl rfl hfr (.inl ⟨rfl, ha⟩)
      · have e : Go.Proofs.Ytcmlnjkbdlakfaa.gwork F Tk g t = gwork1 F Tk g t (g.w t) o := by
          simp only [Go.Proofs.Ytcmlnjkbdlakfaa.gwork, hx, hrd, ho, Bool.true_eq_false, and_false, if_false]
        rw [e]
        exact ws_finish I o (.inl ho) hx hfr hrd kd hw hn hp
end Go.Proofs.Ytcmlnjkbdlakfaa
/- A run at a ring: a worker leaves known what is to be known, and nothing clashes. -/
set_option linter.unusedSimpArgs false
set_option linter.unusedVariables false
namespace Go.Proofs.Ytcmlnjkbdlakfaa
variable {K F W : Nat} {Tk : Nat → Int} {g : GM}
def seesW (dn : Nat) (x : Wk) : Prop := hold x ∨ ∃ o, x.o = some o ∧ o.kd = .claim ∧ 2 ≤ o.pc ∧ o.n = dn ∧ o.n < o.got
def freshW (dn : Nat) (x : Wk) : Prop := ∃ o, x.o = some o ∧ o.kd = .claim ∧ 1 ≤ o.pc ∧ o.n = dn
theorem ClkI.wkeep (C : ClkI K W g) {t : Nat} {x' : Wk} {M' : AM} {n' : Nat} (hwf : M'.WF) (hn : M'.n = g.M.n) (hcl : M'.cl = g.M.cl) (hclk : ∀ a u, g.M.clk a u ≤ M'.clk a u) (hpl : M'.pl = g.M.pl) (ha0 : M'.ak 0 = g.M.ak 0) (ha1 : M'.ak 1 = g.M.ak 1)
    (k0 : (M'.lo 0 = g.M.lo 0 ∧ M'.lk 0 = g.M.lk 0) ∨ (∃ t : Nat, g.M.lo 0 = -1 ∧ M'.lo 0 = t ∧ M'.lk 0 = g.M.lk 0 ∧ ∀ u, ku (g.M.lk 0) u ≤ M'.clk t u) ∨ (∃ t : Nat, g.M.lo 0 = t ∧ M'.lo 0 = -1 ∧ M'.lk 0 = some (M'.clk t)))
    (hh : hold x' ↔ hold (g.w t)) (hs : 1 ≤ t → t ≤ W → seesW g.done x' → seesW g.done (g.w t) ∨ wrc g.M (1 + sl K g.done) 0 ≤ M'.clk t 0) (hf : freshW g.done x' → freshW g.done (g.w t) ∨ ∀ u, ku (g.M.ak 1) u ≤ M'.clk t u) :
    ClkI K W { g with M := M', w := upd g.w t x', ncl := n' } := by
  have hold' : ∀ t', hold (upd g.w t x' t') ↔ hold (g.w t') := fun t' => by
    by_cases e : t' = t
    · subst e; rw [upd_same]; exact hh
    · rw [upd_ne _ _ e]
  refine C.keep _ hwf hn (hcl.trans C.cl) hclk hpl k0 (.inl ⟨ha0, fun s h => h⟩) (fun t' h1 h2 h => ?_) (.inl ⟨ha1, fun s u h1 h2 h hu => h ((hold' u).2 hu)⟩) (fun t' h1 h2 h => .inl ((hold' t').1 h)) (fun t' u h1 h2 h => ?_) (fun o u h1 h2 h3 h4 => Int.le_trans (C.pb o u h1 h2 h3 h4) (hclk 0 u))
  · have h : seesW g.done (upd g.w t x' t') := h
    show _ ≤ M'.clk t' 0
    by_cases e : t' = t
    · subst e
      rw [upd_same] at h
      rcases hs h1 h2 h with h | h
      · exact Int.le_trans (C.hw t' h1 h2 h) (hclk t' 0)
      · exact h
    · rw [upd_ne _ _ e] at h
      exact Int.le_trans (C.hw t' h1 h2 h) (hclk t' 0)
  · have h : freshW g.done (upd g.w t x' t') := h
    show ku (M'.ak 1) u ≤ M'.clk t' u
    rw [ha1]
    by_cases e : t' = t
    · subst e
      rw [upd_same] at h
      rcases hf h with h | h
      · exact Int.le_trans (C.r3 t' u h1 h2 h) (hclk t' u)
      · exact h u
    · rw [upd_ne _ _ e] at h
      exact Int.le_trans (C.r3 t' u h1 h2 h) (hclk t' u)
/-- A worker's look at a cell, or a write of the count of the frames that are dealt. -/
theorem ClkI.wtouch (C : ClkI K W g) {t : Nat} {x' : Wk} {R' : RG} (p : Nat) (wr : Bool) (hR : R'.head = g.R.head)
    (hno : ∀ u, u ≤ W → u ≠ t → wrc g.M p u ≤ g.M.clk t u ∧ (wr = true → rdc g.M p u ≤ g.M.clk t u))
    (hp0 : p = 0 → g.M.lo 0 = t) (hw0 : wr = true → p = 0) (hp : p ≠ 0 → p = 1 + sl K g.done ∧ hold x' ∧ (∀ t', 1 ≤ t' → t' ≤ W → hold (g.w t') → t' = t) ∧ (∀ o, g.pub = some o → o.pc = 1 → sl K g.done ≠ sl K g.R.head))
    (hs : seesW g.done x' → seesW g.done (g.w t)) (hf : freshW g.done x' → freshW g.done (g.w t)) (hh' : hold (g.w t) → hold x')
    (hh : hold x' → hold (g.w t) ∨ ∀ s u, u ≠ t → 1 ≤ u → u ≤ W → rdc g.M (1 + s) u ≤ g.M.clk t u) :
    ClkI K W { g with M := g.M.access t p wr, R := R', w := upd g.w t x' } := by
  refine C.touch _ t p wr rfl hno hp0 (fun h => .inl (hw0 h)) rfl hR (fun s h => ⟨fun o h1 h2 => ?_, fun h1 _ e => ?_⟩) (fun t' h1 h2 h => ⟨?_, fun h3 _ e => ?_⟩) (fun s u h1 h2 h => ⟨fun hu => ?_, fun h3 h4 e => ?_⟩) (fun t' h1 h2 h => ⟨?_, fun h3 h4 s e => ?_⟩) (fun t' h1 h2 h => ?_) (fun o h1 h2 => ⟨⟨o, h1, h2⟩, fun h3 e => ?_⟩)
  · have := h o h1 h2
    rw [hR] at this
    exact this
  · have := hw0 h1; omega
  · have h : seesW g.done (upd g.w t x' t') := h
    by_cases e : t' = t
    · subst e; rw [upd_same] at h; exact hs h
    · rw [upd_ne _ _ e] at h; exact h
  · have := hw0 h3; omega
  · refine h ?_
    show hold (upd g.w t x' u)
    by_cases e : u = t
    · subst e; rw [upd_same]; exact hh' hu
    · rw [upd_ne _ _ e]; exact hu
  · obtain ⟨q1, q2, _⟩ := hp (by omega)
    have := h (by show hold (upd g.w t x' u); rw [h4, upd_same]; exact q2)
    exact this (by omega)
  · have h : hold (upd g.w t x' t') := h
    by_cases e : t' = t
    · subst e; rw [upd_same] at h; exact hh h
    · rw [upd_ne _ _ e] at h; exact .inl h
  · have h : hold (upd g.w t x' t') := h
    rw [upd_ne _ _ (Ne.symm h4)] at h
    obtain ⟨_, _, q3, _⟩ := hp (by omega)
    exact h4 (q3 t' h1 h2 h).symm
  · have h : freshW g.done (upd g.w t x' t') := h
    by_cases e : t' = t
    · subst e; rw [upd_same] at h; exact hf h
    · rw [upd_ne _ _ e] at h; exact h
  · obtain ⟨q1, _, _, q4⟩ := hp (by omega)
    exact q4 o h1 h2 (by omega)
theorem CtlI.n_le (I : CtlI K F W Tk g) {t : Nat} (h1 : 1 ≤ t) (h2 : t ≤ W) {o : RO} (ho : (g.w t).o = some o) (kd : o.kd = .claim) (hp : 1 ≤ o.pc) : o.n ≤ g.done := by
  rcases I.wk t h1 h2 with ⟨_, h⟩ | ⟨_, o', q1, q2, q3, q4⟩ | ⟨_, _, _, _, ⟨h, _⟩ | ⟨o', q1, q2, _⟩⟩
  · rw [h] at ho; cases ho
  · rw [q1] at ho
    have := Option.some.inj ho
    subst this
    rcases q4 with h | ⟨h, _, h'⟩ | ⟨h, _, h', _⟩ | ⟨h, _, h', _⟩ | ⟨h, h', _⟩ | ⟨h, h', _⟩ | ⟨h, h' | ⟨h', _⟩⟩ <;> omega
  · rw [h] at ho; cases ho
  · rw [q1] at ho
    have := Option.some.inj ho
    subst this
    rw [q2] at kd; cases kd
theorem hold_o {x : Wk} {o : RO} (hx : x.left = 0) (ho : x.o = some o) (kd : o.kd = .claim) : hold x ↔ (o.pc = 5 ∨ (o.pc = 6 ∧ o.n ≠ -1)) := by
  rw [wk_eta ho]; exact hold_some hx kd
theorem hold_no {x : Wk} (hx : x.left = 0) (ho : x.o = none) : ¬ hold x := by
  rintro (h | ⟨o', h1, _⟩)
  · omega
  · rw [ho] at h1; cases h1
theorem sees_o {dn : Nat} {x : Wk} {o : RO} (hx : x.left = 0) (ho : x.o = some o) (kd : o.kd = .claim) (h : seesW dn x) : 2 ≤ o.pc ∧ (o.pc = 5 ∨ (o.pc = 6 ∧ o.n ≠ -1) ∨ (o.n = dn ∧ o.n < o.got)) := by
  rcases h with h | ⟨o', h1, h2, h3, h4, h5⟩
  · have := (hold_o hx ho kd).1 h
    omega
  · rw [ho] at h1
    have := Option.some.inj h1
    subst this
    exact ⟨h3, .inr (.inr ⟨h4, h5⟩)⟩
theorem sees_no {dn : Nat} {x : Wk} (hx : x.left = 0) (ho : x.o = none) : ¬ seesW dn x := by
  rintro (h | ⟨o', h1, _⟩)
  · exact hold_no hx ho h
  · rw [ho] at h1; cases h1
theorem fresh_o {dn : Nat} {x : Wk} {o : RO} (ho : x.o = some o) (h : freshW dn x) : o.kd = .claim ∧ 1 ≤ o.pc ∧ o.n = dn := by
  obtain ⟨o', h1, h2⟩ := h
  rw [ho] at h1
  have := Option.some.inj h1
  subst this
  exact h2
theorem fresh_no {dn : Nat} {x : Wk} (ho : x.o = none) : ¬ freshW dn x := by
  rintro ⟨o', h1, _⟩
  rw [ho] at h1; cases h1
theorem sees_s {dn : Nat} {x : Wk} {o : RO} (hx : x.left = 0) (kd : o.kd = .claim) (h : seesW dn { x with o := some o }) : 2 ≤ o.pc ∧ (o.pc = 5 ∨ (o.pc = 6 ∧ o.n ≠ -1) ∨ (o.n = dn ∧ o.n < o.got)) := sees_o (x := { x with o := some o }) hx rfl kd h
theorem sees_none {dn : Nat} {x : Wk} (hx : x.left = 0) : ¬ seesW dn { x with o := none } := sees_no (x := { x with o := none }) hx rfl
/-- A worker's step leaves known what is to be known. -/
theorem ClkI.work (I : CtlI K F W Tk g) (C : ClkI K W g) {t : Nat} (h1 : 1 ≤ t) (h2 : t ≤ W) {g' : GM} (h : WS K Tk g t g') : ClkI K W g' := by
  have uq : hold (g.w t) → ∀ t', 1 ≤ t' → t' ≤ W → hold (g.w t') → t' = t := fun h t' h3 h4 h' => I.one t' t h3 h4 h1 h2 h' h
  have pubs : g.done < g.R.head → ∀ o, g.pub = some o → 1 ≤ o.pc → sl K g.done ≠ sl K g.R.head := fun hd o ho hp => by
    rcases I.pub with ⟨h, _⟩ | ⟨o', q1, q2, q3, q4, q5, q6, q7, q8, q9⟩
    · rw [h] at ho; cases ho
    · rw [q1] at ho
      have := Option.some.inj ho
      subst this
      exact sl_ne I.kp hd (q8 hp)
  cases h with
  | c0 o hx ho kd hw p e =>
    rw [e]
    have nh : ¬ hold (g.w t) := fun h => by
      rcases ho with ho | ho
      · have := (hold_o hx ho kd).1 h; omega
      · exact hold_no hx ho h
    refine C.wkeep (wf_load C.wf t 1) rfl rfl (load_le g.M t 1) rfl rfl rfl (.inl ⟨rfl, rfl⟩) ⟨fun h => ?_, fun h => absurd h nh⟩ (fun _ _ h => ?_) (fun h => .inr (load_ku C.wf t 1))
    · have := (hold_some (o := { o with pc := 1, n := g.done }) hx kd).1 h
      simp at this
    · have := sees_s (o := { o with pc := 1, n := g.done }) hx kd h
      simp at this
  | c1 o hx ho kd hw p n0 n1 e =>
    rw [e]
    have nh : ¬ hold (g.w t) := fun h => by have := (hold_o hx ho kd).1 h; omega
    refine C.wkeep (wf_load C.wf t 0) rfl rfl (load_le g.M t 0) rfl rfl rfl (.inl ⟨rfl, rfl⟩) ⟨fun h => ?_, fun h => absurd h nh⟩ (fun _ _ h => .inr ?_) (fun h => .inl ⟨o, ho, kd, by omega, (fresh_o (o := { o with pc := 2, got := g.R.head }) rfl h).2.2⟩)
    · have := (hold_some (o := { o with pc := 2, got := g.R.head }) hx kd).1 h
      simp at this
    · obtain ⟨_, h3⟩ := sees_s (o := { o with pc := 2, got := g.R.head }) hx kd h
      have h3 : o.n = g.done ∧ o.n < g.R.head := by simpa using h3
      refine Int.le_trans (C.hd _ fun o' q1 q2 => pubs (by omega) o' q1 (by omega)) (load_ku C.wf t 0 0)
  | c2n o hx ho kd hw p n0 n1 gh hg e =>
    rw [e]
    have nh : ¬ hold (g.w t) := fun h => by have := (hold_o hx ho kd).1 h; omega
    exact C.wkeep (wf_load C.wf t 2) rfl rfl (load_le g.M t 2) rfl rfl rfl (.inl ⟨rfl, rfl⟩) ⟨fun h => absurd h (hold_none hx), fun h => absurd h nh⟩ (fun _ _ h => absurd h (sees_none hx)) (fun h => absurd h (fresh_no rfl))
  | c2l o hx ho kd hw p n0 n1 gh hg hl e =>
    rw [e]
    have nh : ¬ hold (g.w t) := fun h => by have := (hold_o hx ho kd).1 h; omega
    have eL : g.M.lock t 0 = { (g.M.tick t).join t (g.M.lk 0) with lo := upd g.M.lo 0 t } := by unfold AM.lock; rw [if_pos hl]
    have clk : ∀ a u, g.M.clk a u ≤ (g.M.lock t 0).clk a u := fun a u => by
      rw [eL]
      show _ ≤ upd (g.M.tick t).clk t (jn ((g.M.tick t).clk t) (g.M.lk 0)) a u
      by_cases ea : a = t
      · subst ea; rw [upd_same]; exact Int.le_trans (tick_le g.M a a u) (jn_ge _ _ _)
      · rw [upd_ne _ _ ea]; exact tick_le g.M t a u
    have kul : ∀ u, ku (g.M.lk 0) u ≤ (g.M.lock t 0).clk t u := fun u => by
      rw [eL]
      show _ ≤ upd (g.M.tick t).clk t (jn ((g.M.tick t).clk t) (g.M.lk 0)) t u
      rw [upd_same]
      exact jn_ku _ _ ((wf_tick C.wf t).clk t u).1
    refine C.wkeep (wf_lock C.wf t 0) (by rw [eL]; rfl) (by rw [eL]; rfl) clk (by rw [eL]; rfl) (by rw [eL]; rfl) (by rw [eL]; rfl) (.inr (.inl ⟨t, hl, by rw [eL]; exact upd_same g.M.lo 0 (t : Int), by rw [eL]; rfl, kul⟩)) ⟨fun h => ?_, fun h => absurd h nh⟩ (fun _ _ h => .inl ?_) (fun h => .inl ⟨o, ho, kd, by omega, (fresh_o (o := { o with pc := 3 }) rfl h).2.2⟩)
    · have := (hold_some (o := { o with pc := 3 }) hx kd).1 h
      simp at this
    · obtain ⟨_, h3⟩ := sees_s (o := { o with pc := 3 }) hx kd h
      have h3 : o.n = g.done ∧ o.n < o.got := by simpa using h3
      exact .inr ⟨o, ho, kd, by omega, h3⟩
  | c2f o hx ho kd hw p n0 n1 gh hg hl e =>
    rw [e]
    have nh : ¬ hold (g.w t) := fun h => by have := (hold_o hx ho kd).1 h; omega
    have eL : g.M.lock t 0 = g.M.tick t := by unfold AM.lock; rw [if_neg hl]
    rw [eL]
    exact C.wkeep (wf_tick C.wf t) rfl rfl (tick_le g.M t) rfl rfl rfl (.inl ⟨rfl, rfl⟩) ⟨fun h => absurd h (hold_none hx), fun h => absurd h nh⟩ (fun _ _ h => absurd h (sees_none hx)) (fun h => absurd h (fresh_no rfl))
  | c3y o hx ho kd hw p n0 hD hg gh hl e =>
    rw [e]
    have nh : ¬ hold (g.w t) := fun h => by have := (hold_o hx ho kd).1 h; omega
    have nh' : ¬ hold { g.w t with o := some { o with pc := 4 } } := fun h => by
      have := (hold_some (o := { o with pc := 4 }) hx kd).1 h
      simp at this
    exact C.wtouch 0 false rfl (fun u hu hne => ⟨(C.c0o t u hl hne).2, fun h => by cases h⟩) (fun _ => hl) (fun _ => rfl) (fun h => absurd rfl h) (fun _ => .inr ⟨o, ho, kd, by omega, n0, hg⟩) (fun _ => ⟨o, ho, kd, by omega, n0⟩) (fun h => absurd h nh) (fun h => absurd h nh')
  | c3n o hx ho kd hw p n0 n1 hD hl e =>
    rw [e]
    have nh : ¬ hold (g.w t) := fun h => by have := (hold_o hx ho kd).1 h; omega
    have nh' : ¬ hold { g.w t with o := some { o with pc := 6, n := -1 } } := fun h => by
      have := (hold_some (o := { o with pc := 6, n := -1 }) hx kd).1 h
      simp at this
    refine C.wtouch 0 false rfl (fun u hu hne => ⟨(C.c0o t u hl hne).2, fun h => by cases h⟩) (fun _ => hl) (fun _ => rfl) (fun h => absurd rfl h) (fun h => ?_) (fun h => ?_) (fun h => absurd h nh) (fun h => absurd h nh')
    · have h3 := (sees_s (o := { o with pc := 6, n := -1 }) hx kd h).2
      rcases h3 with h3 | ⟨_, h3⟩ | ⟨h3, _⟩
      · simp at h3
      · exact absurd rfl h3
      · have h3 : (-1 : Int) = g.done := h3
        omega
    · have h3 := (fresh_o (o := { o with pc := 6, n := -1 }) rfl h).2.2
      have h3 : (-1 : Int) = g.done := h3
      omega
  | c4 o hx ho kd hw p n0 hD hg gh hl e =>
    rw [e]
    have nh : ¬ hold (g.w t) := fun h => by have := (hold_o hx ho kd).1 h; omega
    have nha : ∀ t', 1 ≤ t' → t' ≤ W → ¬ hold (g.w t') := fun t' h3 h4 h => by have := (okW_hold (I.wk t' h3 h4) h).1; omega
    exact C.wtouch (R' := { g.R with dealt := g.R.dealt + 1 }) 0 true rfl (fun u hu hne => ⟨(C.c0o t u hl hne).2, fun _ => (C.c0o t u hl hne).1⟩) (fun _ => hl) (fun _ => rfl) (fun h => absurd rfl h) (fun _ => .inr ⟨o, ho, kd, by omega, n0, hg⟩) (fun _ => ⟨o, ho, kd, by omega, n0⟩) (fun h => absurd h nh)
      (fun h => .inr fun s u hne h3 h4 => Int.le_trans (C.r1 s u h3 h4 fun hu => absurd hu (nha u h3 h4)) (C.r3 t u h1 h2 ⟨o, ho, kd, by omega, n0⟩))
  | c5 o hx ho kd hw p n0 hD hl e =>
    rw [e]
    have hh : hold (g.w t) := (hold_o hx ho kd).2 (.inl p)
    have hdH := (okW_hold (I.wk t h1 h2) hh).2
    have hh' : hold { g.w t with o := some { o with pc := 6 } } := (hold_some (o := { o with pc := 6 }) hx kd).2 (.inr ⟨rfl, by show o.n ≠ -1; omega⟩)
    refine C.wtouch _ false rfl (fun u hu hne => ⟨?_, fun h => by cases h⟩) (fun h => absurd h (by omega)) (fun h => by cases h) (fun _ => ⟨rfl, hh', uq hh, fun o q1 q2 => pubs hdH o q1 (by omega)⟩) (fun _ => .inl hh) (fun _ => ⟨o, ho, kd, by omega, n0⟩) (fun _ => hh') (fun _ => .inl hh)
    by_cases eu : u = 0
    · subst eu; exact C.hw t h1 h2 (.inl hh)
    · exact Int.le_trans (C.w0 _ u eu) (C.wf.clk t u).1
  | c6n o hx ho kd hw p n0 hl e =>
    rw [e]
    have nh : ¬ hold (g.w t) := fun h => by have := (hold_o hx ho kd).1 h; omega
    exact C.wkeep (wf_unlock C.wf t 0) rfl rfl (tick_le g.M t) rfl rfl rfl (.inr (.inr ⟨t, hl, upd_same g.M.lo 0 (-1), upd_same g.M.lk 0 _⟩)) ⟨fun h => absurd h (hold_none hx), fun h => absurd h nh⟩ (fun _ _ h => absurd h (sees_none hx)) (fun h => absurd h (fresh_no rfl))
  | c6y o hx ho kd hw p n0 hD hdH hl e =>
    rw [e]
    have hh : hold (g.w t) := (hold_o hx ho kd).2 (.inr ⟨p, by omega⟩)
    have := I.b
    exact C.wkeep (wf_unlock C.wf t 0) rfl rfl (tick_le g.M t) rfl rfl rfl (.inr (.inr ⟨t, hl, upd_same g.M.lo 0 (-1), upd_same g.M.lk 0 _⟩)) ⟨fun _ => hh, fun _ => .inl (I.tk g.done (by omega))⟩ (fun _ _ _ => .inl (.inl hh)) (fun h => absurd h (fresh_no rfl))
  | rd hx hr ho hf e =>
    rw [e]
    have hh : hold (g.w t) := .inl hx
    have hdH := (okW_hold (I.wk t h1 h2) hh).2
    refine C.wtouch _ false rfl (fun u hu hne => ⟨?_, fun h => by cases h⟩) (fun h => absurd h (by omega)) (fun h => by cases h) (fun _ => ⟨rfl, .inl hx, uq hh, fun o q1 q2 => pubs hdH o q1 (by omega)⟩) (fun _ => .inl hh) (fun h => absurd h (fresh_no ho)) (fun _ => .inl hx) (fun _ => .inl hh)
    by_cases eu : u = 0
    · subst eu; exact C.hw t h1 h2 (.inl hh)
    · exact Int.le_trans (C.w0 _ u eu) (C.wf.clk t u).1
  | f0l o hx hr ho kd hw p n0 hl ha e =>
    rw [e]
    have ak : ∀ y i, i ≠ 3 + sl K g.done → (g.M.add t (3 + sl K g.done) y).ak i = g.M.ak i := fun y i hi => by
      simp only [AM.add, AM.load, AM.join, AM.put, AM.tick, upd, if_neg hi]
    refine C.wkeep (wf_add C.wf t _ _) rfl rfl (load_le g.M t _) rfl (ak _ 0 (by omega)) (ak _ 1 (by omega)) (.inl ⟨rfl, rfl⟩) ⟨fun _ => .inl hx, fun _ => .inl hx⟩ (fun _ _ _ => .inl (.inl (.inl hx))) (fun h => ?_)
    have h3 := (fresh_o (o := { o with pc := 1 }) rfl h).1
    have h3 : o.kd = .claim := h3
    rw [kd] at h3; cases h3
  | f0m hx hr hl ho hf e =>
    rw [e]
    have ak : ∀ y i, i ≠ 3 + sl K g.done → (g.M.add t (3 + sl K g.done) y).ak i = g.M.ak i := fun y i hi => by
      simp only [AM.add, AM.load, AM.join, AM.put, AM.tick, upd, if_neg hi]
    exact C.wkeep (wf_add C.wf t _ _) rfl rfl (load_le g.M t _) rfl (ak _ 0 (by omega)) (ak _ 1 (by omega)) (.inl ⟨rfl, rfl⟩) ⟨fun _ => .inl hx, fun _ => .inl (by show 0 < (g.w t).left - 1; omega)⟩ (fun _ _ _ => .inl (.inl (.inl hx))) (fun h => absurd h (fresh_no rfl))
  | f1 o hr ho kd p hl e =>
    rw [e]
    have hh : hold (g.w t) := .inl (by omega)
    have nh : ∀ t', 1 ≤ t' → t' ≤ W → ¬ hold (upd g.w t ⟨none, (g.w t).frame, 0, false⟩ t') := fun t' h3 h4 h => by
      by_cases ee : t' = t
      · subst ee; rw [upd_same] at h; exact hold_no rfl rfl h
      · rw [upd_ne _ _ ee] at h; exact ee (uq hh t' h3 h4 h)
    have nf : ∀ t', 1 ≤ t' → t' ≤ W → ∀ o', (upd g.w t ⟨none, (g.w t).frame, 0, false⟩ t').o = some o' → o'.kd = .claim → 1 ≤ o'.pc → o'.n ≤ g.done := fun t' h3 h4 o' q1 q2 q3 => by
      by_cases ee : t' = t
      · subst ee; rw [upd_same] at q1; cases q1
      · rw [upd_ne _ _ ee] at q1; exact I.n_le h3 h4 q1 q2 q3
    have ak : ∀ i, i ≠ 1 → (g.M.store t 1 ((g.done : Int) + 1)).ak i = g.M.ak i := fun i hi => by
      simp only [AM.store, AM.put, AM.tick, upd, if_neg hi]
    refine C.keep _ (wf_store C.wf t 1 _) rfl C.cl (tick_le g.M t) rfl (.inl ⟨rfl, rfl⟩) (.inl ⟨ak 0 (by omega), fun s h => h⟩) (fun t' h3 h4 h => ?_) (.inr ⟨t, h1, h2, hh, rfl⟩) (fun t' h3 h4 h => absurd h (nh t' h3 h4)) (fun t' u h3 h4 h => ?_) (fun o u q1 q2 q3 q4 => Int.le_trans (C.pb o u q1 q2 q3 q4) (tick_le g.M t 0 u))
    · rcases h with h | ⟨o', q1, q2, q3, q4, q5⟩
      · exact absurd h (nh t' h3 h4)
      · have := nf t' h3 h4 o' q1 q2 (by omega)
        have q4 : o'.n = ((g.done + 1 : Nat) : Int) := q4
        omega
    · obtain ⟨o', q1, q2, q3, q4⟩ := h
      have := nf t' h3 h4 o' q1 q2 q3
      have q4 : o'.n = ((g.done + 1 : Nat) : Int) := q4
      omega
theorem ClkI.gstep (I : CtlI K F W Tk g) (C : ClkI K W g) {t : Nat} (h : t ≤ W) : ClkI K W (gstep F W Tk g t) := by
  unfold Go.Proofs.Ytcmlnjkbdlakfaa.gstep
  split
  · exact ClkI.gpub I C
  · exact ClkI.work I C (by omega) h (ws_of I (by omega) h)
end Go.Proofs.Ytcmlnjkbdlakfaa
/- A run at a ring: how far it is from its end. -/
set_option linter.unusedSimpArgs false
set_option linter.unusedVariables false
namespace Go.Proofs.Ytcmlnjkbdlakfaa
variable {K F W : Nat} {Tk : Nat → Int} {g : GM}
/-! ### sums over workers -/
def sumW (f : Nat → Nat) : Nat → Nat
  | 0 => 0
  | n + 1 => sumW f n + f (n + 1)
theorem sumW_congr {f h : Nat → Nat} : ∀ n, (∀ i, 1 ≤ i → i ≤ n → f i = h i) → sumW f n = sumW h n
  | 0, _ => rfl
  | n + 1, e => by
    show sumW f n + f (n + 1) = sumW h n + h (n + 1)
    rw [sumW_congr n fun i h1 h2 => e i h1 (by omega), e (n + 1) (by omega) (by omega)]
theorem sumW_le {f : Nat → Nat} {c : Nat} (h : ∀ i, f i ≤ c) : ∀ n, sumW f n ≤ c * n
  | 0 => Nat.zero_le _
  | n + 1 => by
    have := sumW_le h n
    have := h (n + 1)
    show sumW f n + f (n + 1) ≤ c * (n + 1)
    rw [Nat.mul_succ]; omega
theorem sumW_upd (φ : Wk → Nat) (w : Nat → Wk) (t : Nat) (x : Wk) : ∀ n, 1 ≤ t → t ≤ n → sumW (fun i => φ (upd w t x i)) n + φ (w t) = sumW (fun i => φ (w i)) n + φ x
  | 0, h1, h2 => by omega
  | n + 1, h1, h2 => by
    show sumW (fun i => φ (upd w t x i)) n + φ (upd w t x (n + 1)) + _ = sumW (fun i => φ (w i)) n + φ (w (n + 1)) + _
    by_cases e : t = n + 1
    · subst e
      rw [upd_same, sumW_congr (f := fun i => φ (upd w (n + 1) x i)) (h := fun i => φ (w i)) n fun i h3 h4 => by
        show φ (upd w (n + 1) x i) = _
        rw [upd_ne _ _ (show i ≠ n + 1 by omega)]]
      omega
    · rw [upd_ne _ _ (Ne.symm e)]
      have := sumW_upd φ w t x n h1 (by omega)
      omega
theorem le_sumW {f : Nat → Nat} : ∀ (n t : Nat), 1 ≤ t → t ≤ n → f t ≤ sumW f n
  | 0, t, h1, h2 => by omega
  | n + 1, t, h1, h2 => by
    show f t ≤ sumW f n + f (n + 1)
    by_cases e : t = n + 1
    · subst e; omega
    · have := le_sumW (f := f) n t h1 (by omega); omega
theorem sumW_pos {f : Nat → Nat} : ∀ n, 0 < sumW f n → ∃ t, 1 ≤ t ∧ t ≤ n ∧ 0 < f t
  | 0, h => absurd h (Nat.lt_irrefl 0)
  | n + 1, h => by
    have h : 0 < sumW f n + f (n + 1) := h
    by_cases e : 0 < f (n + 1)
    · exact ⟨n + 1, by omega, by omega, e⟩
    · obtain ⟨t, h1, h2, h3⟩ := sumW_pos n (show 0 < sumW f n by omega)
      exact ⟨t, h1, by omega, h3⟩
theorem sumW_zero {f : Nat → Nat} (n : Nat) (h : ∀ i, 1 ≤ i → i ≤ n → f i = 0) : sumW f n = 0 := by
  cases e : sumW f n with
  | zero => rfl
  | succ k =>
    obtain ⟨t, h1, h2, h3⟩ := sumW_pos n (show 0 < sumW f n by omega)
    have := h t h1 h2
    omega
/-! ### how far -/
def pcw (x : Wk) : Nat := match x.o with | none => 0 | some o => o.pc
/-- How many steps a worker's look is behind. -/
def stv (T : Nat) (o : RO) : Nat :=
  if o.pc = 1 then (if o.n = T then 0 else 4) else if o.pc = 2 then (if o.n < o.got then (if o.n = T then 0 else 3) else 1) else if o.pc = 3 then (if o.n = T then 0 else 2) else if o.pc = 6 then (if o.n = -1 then 1 else 0) else 0
def st (T : Nat) (x : Wk) : Nat := match x.o with | none => 0 | some o => stv T o
/-- How many steps who has a frame has to do. -/
def hv (x : Wk) : Nat := if 0 < x.left then 2 * x.left.toNat + 1 - (if x.read then 1 else 0) - (if pcw x = 1 then 1 else 0) else match x.o with | none => 0 | some o => if o.kd = .claim ∧ o.pc = 5 then 11 else if o.kd = .claim ∧ o.pc = 6 ∧ o.n ≠ -1 then 10 else 0
def ppc (g : GM) : Nat := match g.pub with | none => 0 | some o => o.pc
/-- Nobody has the frame that comes next: how far till somebody has. -/
def vb (W T : Nat) (lo : Int) (w : Nat → Wk) : Nat :=
  let s := sumW (fun i => st T (w i)) W
  if 0 < s then 5 + s else if lo = -1 then 2 + (3 - pcw (w 1)) else 5 - pcw (w lo.toNat)
def sv (W T D H pp : Nat) (lo : Int) (w : Nat → Wk) : Nat := if H ≤ T then 36 + (4 - pp) else if D = T then 11 + vb W T lo w else sumW (fun i => hv (w i)) W
def phi (F W : Nat) (g : GM) : Nat := if F ≤ g.done then 0 else 40 * (F - g.done - 1) + sv W g.done g.R.dealt g.R.head (ppc g) (g.M.lo 0) g.w
/-- Whose step brings it nearer. -/
def rsp (W T D H : Nat) (lo : Int) (w : Nat → Wk) (t : Nat) : Prop :=
  if H ≤ T then t = 0 else 1 ≤ t ∧ t ≤ W ∧ (if D = T then (if 0 < sumW (fun i => st T (w i)) W then 0 < st T (w t) else if lo = -1 then t = 1 else lo = t) else 0 < hv (w t))
def Rsp (W : Nat) (g : GM) (t : Nat) : Prop := rsp W g.done g.R.dealt g.R.head (g.M.lo 0) g.w t
theorem st_le (T : Nat) (x : Wk) : st T x ≤ 4 := by
  unfold st stv
  split
  · omega
  · repeat' split
    all_goals omega
theorem vb_le (W T : Nat) (lo : Int) (w : Nat → Wk) : vb W T lo w ≤ 5 + 4 * W := by
  have := sumW_le (f := fun i => st T (w i)) (c := 4) (fun i => st_le T (w i)) W
  unfold vb
  simp only
  repeat' split
  all_goals omega
/-- It has come nearer, or is as far as it was and who brings it nearer still does. -/
def prog (F W : Nat) (g g' : GM) (t : Nat) : Prop := phi F W g' < phi F W g ∨ (phi F W g' = phi F W g ∧ ¬ Rsp W g t ∧ ∀ u, u ≠ t → Rsp W g u → Rsp W g' u)
theorem vb_pos {W T : Nat} {lo : Int} {w : Nat → Wk} (h : 0 < sumW (fun i => st T (w i)) W) : vb W T lo w = 5 + sumW (fun i => st T (w i)) W := by
  unfold vb; simp only; rw [if_pos h]
theorem vb_free {W T : Nat} {w : Nat → Wk} (h : ¬ 0 < sumW (fun i => st T (w i)) W) : vb W T (-1) w = 2 + (3 - pcw (w 1)) := by
  unfold vb; simp only; rw [if_neg h, if_true]
theorem vb_lock {W T : Nat} {lo : Int} {w : Nat → Wk} (h : ¬ 0 < sumW (fun i => st T (w i)) W) (hl : lo ≠ -1) : vb W T lo w = 5 - pcw (w lo.toNat) := by
  unfold vb; simp only; rw [if_neg h, if_neg hl]
theorem vb_le5 {W T : Nat} {lo : Int} {w : Nat → Wk} (h : ¬ 0 < sumW (fun i => st T (w i)) W) : vb W T lo w ≤ 5 := by
  unfold vb; simp only; rw [if_neg h]
  split <;> omega
/-- A worker's step while nobody has the frame that comes next. -/
theorem vb_step {W T t : Nat} {lo lo' : Int} {w : Nat → Wk} {x' : Wk} (hW : 1 ≤ W) (h1 : 1 ≤ t) (h2 : t ≤ W) (hs : st T x' ≤ st T (w t)) (hs' : 0 < st T (w t) → st T x' < st T (w t)) (hlk : lo = -1 → pcw (w 1) ≤ 2)
    (hc : st T (w t) = 0 → (lo' = lo ∧ lo = -1 ∧ pcw x' = pcw (w t) + 1 ∧ pcw x' ≤ 2) ∨ (lo = -1 ∧ lo' = t ∧ pcw x' = 3) ∨ (lo' = lo ∧ lo ≠ -1 ∧ 0 ≤ lo ∧ lo ≠ t) ∨ (lo' = lo ∧ lo = t ∧ pcw (w t) = 3 ∧ pcw x' = 4)) :
    vb W T lo' (upd w t x') < vb W T lo w ∨ (vb W T lo' (upd w t x') = vb W T lo w ∧ ¬ (if 0 < sumW (fun i => st T (w i)) W then 0 < st T (w t) else if lo = -1 then t = 1 else lo = t) ∧
      ∀ u, u ≠ t → (if 0 < sumW (fun i => st T (w i)) W then 0 < st T (w u) else if lo = -1 then u = 1 else lo = u) → (if 0 < sumW (fun i => st T (upd w t x' i)) W then 0 < st T (upd w t x' u) else if lo' = -1 then u = 1 else lo' = u)) := by
  have hsum := sumW_upd (st T) w t x' W h1 h2
  have hle := le_sumW (f := fun i => st T (w i)) W t h1 h2
  by_cases h0 : 0 < st T (w t)
  · have := hs' h0
    left
    rw [vb_pos (lo := lo) (show 0 < sumW (fun i => st T (w i)) W by omega)]
    by_cases hp : 0 < sumW (fun i => st T (upd w t x' i)) W
    · rw [vb_pos hp]; omega
    · have := vb_le5 (lo := lo') hp; omega
  · have hss : sumW (fun i => st T (upd w t x' i)) W = sumW (fun i => st T (w i)) W := by omega
    by_cases hp : 0 < sumW (fun i => st T (w i)) W
    · right
      have hp' : 0 < sumW (fun i => st T (upd w t x' i)) W := by omega
      refine ⟨by rw [vb_pos hp, vb_pos hp', hss], by rw [if_pos hp]; exact h0, fun u hu h => ?_⟩
      rw [if_pos hp] at h
      rw [if_pos hp', upd_ne _ _ hu]; exact h
    · have hp' : ¬ 0 < sumW (fun i => st T (upd w t x' i)) W := by omega
      rcases hc (by omega) with ⟨rfl, rfl, hx, hx2⟩ | ⟨rfl, rfl, hx⟩ | ⟨rfl, hl, hl0, hne⟩ | ⟨rfl, rfl, hx, hx'⟩
      · rw [vb_free hp, vb_free hp']
        by_cases e : t = 1
        · left; subst e; rw [upd_same]; omega
        · right
          rw [upd_ne _ _ (Ne.symm e), if_neg hp, if_pos rfl]
          refine ⟨rfl, e, fun u hu h => ?_⟩
          rw [if_neg hp, if_pos rfl] at h
          rw [if_neg hp', if_pos rfl]; exact h
      · left
        rw [vb_free hp, vb_lock hp' (by omega)]
        have := hlk rfl
        have e : (t : Int).toNat = t := rfl
        rw [e, upd_same]; omega
      · right
        have e : lo'.toNat ≠ t := by omega
        rw [vb_lock hp hl, vb_lock hp' hl, upd_ne _ _ e, if_neg hp, if_neg hl]
        refine ⟨rfl, hne, fun u hu h => ?_⟩
        rw [if_neg hp, if_neg hl] at h
        rw [if_neg hp', if_neg hl]; exact h
      · left
        have e : (t : Int).toNat = t := rfl
        rw [vb_lock hp (by omega), vb_lock hp' (by omega), e, upd_same]; omega
end Go.Proofs.Ytcmlnjkbdlakfaa
/- A run at a ring: every step brings its end nearer, or leaves who does that. -/
set_option linter.unusedSimpArgs false
set_option linter.unusedVariables false
namespace Go.Proofs.Ytcmlnjkbdlakfaa
variable {K F W : Nat} {Tk : Nat → Int} {g : GM}
theorem phi_eq {g : GM} (h : g.done < F) : phi F W g = 40 * (F - g.done - 1) + sv W g.done g.R.dealt g.R.head (ppc g) (g.M.lo 0) g.w := by
  unfold phi; rw [if_neg (by omega)]
theorem prog_of {g' : GM} {t : Nat} (hF : g.done < F) (hd : g'.done = g.done)
    (h : sv W g.done g'.R.dealt g'.R.head (ppc g') (g'.M.lo 0) g'.w < sv W g.done g.R.dealt g.R.head (ppc g) (g.M.lo 0) g.w ∨ (sv W g.done g'.R.dealt g'.R.head (ppc g') (g'.M.lo 0) g'.w = sv W g.done g.R.dealt g.R.head (ppc g) (g.M.lo 0) g.w ∧ ¬ Rsp W g t ∧ ∀ u, u ≠ t → Rsp W g u → Rsp W g' u)) : prog F W g g' t := by
  unfold prog
  rw [phi_eq hF, phi_eq (g := g') (by omega), hd]
  rcases h with h | ⟨h, h2⟩
  · left; omega
  · right; exact ⟨by rw [h], h2⟩
theorem prog_pub1 (hW : W ≤ 5) (I : CtlI K F W Tk g) (hF : g.done < F) (o : RO) (h : okP K F Tk g o) (hp : g.pub = some o ∨ (g.pub = none ∧ o.pc = 0)) : prog F W g (gpub1 g o (g.R.head + 1)) 0 := by
  obtain ⟨b1, b2, b3, b4, b5⟩ := I.b
  have hpp : ppc g = o.pc := by
    unfold ppc
    rcases hp with h | ⟨h, h'⟩
    · rw [h]
    · rw [h, h']
  have kp := I.kp
  by_cases hA : g.R.head ≤ g.done
  · rcases gpub1_eq I o h with ⟨p, e, h3⟩ | ⟨p, hlt, e⟩ | ⟨p, hlt, e⟩ | ⟨p, hlt, e⟩ | ⟨p, hlt, e⟩
    · omega
    · rw [e]
      refine prog_of hF rfl (.inl ?_)
      show sv W g.done g.R.dealt g.R.head 1 _ _ < _
      unfold sv
      rw [if_pos hA, if_pos hA, hpp]; omega
    · rw [e]
      refine prog_of hF rfl (.inl ?_)
      show sv W g.done g.R.dealt g.R.head 2 _ _ < _
      unfold sv
      rw [if_pos hA, if_pos hA, hpp]; omega
    · rw [e]
      refine prog_of hF rfl (.inl ?_)
      show sv W g.done g.R.dealt g.R.head 3 _ _ < _
      unfold sv
      rw [if_pos hA, if_pos hA, hpp]; omega
    · rw [e]
      refine prog_of hF rfl (.inl ?_)
      show sv W g.done g.R.dealt (g.R.head + 1) _ (g.M.lo 0) g.w < _
      unfold sv
      rw [if_pos hA, if_neg (show ¬ g.R.head + 1 ≤ g.done by omega), if_pos (show g.R.dealt = g.done by omega), hpp]
      have := vb_le W g.done (g.M.lo 0) g.w
      omega
  · have done : ∀ g' : GM, g'.done = g.done → g'.R.dealt = g.R.dealt → ¬ g'.R.head ≤ g.done → g'.M.lo = g.M.lo → g'.w = g.w → prog F W g g' 0 := fun g' e1 e2 e3 e4 e5 => by
      refine prog_of hF e1 (.inr ⟨?_, fun h => ?_, fun u hu h => ?_⟩)
      · unfold sv
        rw [if_neg e3, if_neg hA, e2, e4, e5]
      · unfold Rsp rsp at h
        rw [if_neg hA] at h
        omega
      · unfold Rsp rsp at h ⊢
        rw [if_neg hA] at h
        rw [e1, e2, if_neg e3, e4, e5]; exact h
    rcases gpub1_eq I o h with ⟨p, e, h3⟩ | ⟨p, hlt, e⟩ | ⟨p, hlt, e⟩ | ⟨p, hlt, e⟩ | ⟨p, hlt, e⟩ <;> rw [e]
    · exact done _ rfl rfl hA rfl rfl
    · exact done _ rfl rfl hA rfl rfl
    · exact done _ rfl rfl hA rfl rfl
    · exact done _ rfl rfl hA rfl rfl
    · exact done _ rfl rfl (by show ¬ g.R.head + 1 ≤ g.done; omega) rfl rfl
theorem prog_pub (hW : W ≤ 5) (I : CtlI K F W Tk g) (hF : g.done < F) : prog F W g (gpub F Tk g) 0 := by
  unfold Go.Proofs.Ytcmlnjkbdlakfaa.gpub
  rcases I.pub with ⟨h1, h2⟩ | ⟨o, h1, h2, h3⟩
  · rw [h1]
    show prog F W g (if F ≤ g.next then g else gpub1 g (RO.new .publish 0 (Tk g.next)) (g.next + 1)) 0
    split
    · right
      refine ⟨rfl, fun h => ?_, fun u _ h => h⟩
      unfold Rsp rsp at h
      rw [if_neg (by omega)] at h
      omega
    · rw [h2]
      exact prog_pub1 hW I hF _ ⟨by omega, rfl, rfl, Nat.zero_le _, rfl, fun h => absurd h (by show ¬ 1 ≤ 0; omega), fun h => by cases h⟩ (.inr ⟨h1, rfl⟩)
  · rw [h1]
    show prog F W g (gpub1 g o g.next) 0
    rw [h2]
    exact prog_pub1 hW I hF o ⟨by omega, h3.2⟩ (.inl h1)
theorem hv_no {x : Wk} (h : ¬ hold x) : hv x = 0 := by
  unfold hv
  have hx : ¬ 0 < x.left := fun e => h (.inl e)
  rw [if_neg hx]
  cases ho : x.o with
  | none => rfl
  | some o =>
    show (if o.kd = .claim ∧ o.pc = 5 then 11 else if o.kd = .claim ∧ o.pc = 6 ∧ o.n ≠ -1 then 10 else 0) = 0
    rw [if_neg fun e => h (.inr ⟨o, ho, e.1, .inl e.2⟩), if_neg fun e => h (.inr ⟨o, ho, e.1, .inr e.2⟩)]
theorem hv_left {x : Wk} (h : 0 < x.left) : hv x = 2 * x.left.toNat + 1 - (if x.read then 1 else 0) - (if pcw x = 1 then 1 else 0) := by
  unfold hv; rw [if_pos h]
theorem hv_some {x : Wk} {o : RO} (hx : x.left = 0) (ho : x.o = some o) (kd : o.kd = .claim) : hv x = if o.pc = 5 then 11 else if o.pc = 6 ∧ o.n ≠ -1 then 10 else 0 := by
  unfold hv
  rw [if_neg (by omega), ho]
  show (if o.kd = .claim ∧ o.pc = 5 then 11 else if o.kd = .claim ∧ o.pc = 6 ∧ o.n ≠ -1 then 10 else 0) = _
  simp only [kd, true_and]
theorem progC1 (hF : g.done < F) (hA : ¬ g.R.head ≤ g.done) (hD : g.R.dealt ≠ g.done) {t : Nat} (h1 : 1 ≤ t) (h2 : t ≤ W) {M' : AM} {x' : Wk} {n' : Nat} (h : hv x' < hv (g.w t)) : prog F W g { g with M := M', w := upd g.w t x', ncl := n' } t := by
  refine prog_of hF rfl (.inl ?_)
  show sv W g.done g.R.dealt g.R.head _ _ (upd g.w t x') < _
  have := sumW_upd hv g.w t x' W h1 h2
  unfold sv
  rw [if_neg hA, if_neg hA, if_neg hD, if_neg hD]
  omega
theorem progC2 (hF : g.done < F) (hA : ¬ g.R.head ≤ g.done) (hD : g.R.dealt ≠ g.done) {t : Nat} (h1 : 1 ≤ t) (h2 : t ≤ W) {M' : AM} {x' : Wk} (h : ¬ hold x') (h' : ¬ hold (g.w t)) : prog F W g { g with M := M', w := upd g.w t x' } t := by
  have := sumW_upd hv g.w t x' W h1 h2
  rw [hv_no h, hv_no h'] at this
  refine prog_of hF rfl (.inr ⟨?_, fun hr => ?_, fun u hu hr => ?_⟩)
  · show sv W g.done g.R.dealt g.R.head _ _ (upd g.w t x') = _
    unfold sv
    rw [if_neg hA, if_neg hA, if_neg hD, if_neg hD]
    exact this
  · unfold Rsp rsp at hr
    rw [if_neg hA, if_neg hD, hv_no h'] at hr
    omega
  · unfold Rsp rsp at hr
    show rsp W g.done g.R.dealt g.R.head _ (upd g.w t x') u
    unfold rsp
    rw [if_neg hA, if_neg hD] at hr
    rw [if_neg hA, if_neg hD, upd_ne _ _ hu]
    exact hr
theorem progA (hF : g.done < F) (hA : g.R.head ≤ g.done) {t : Nat} (h1 : 1 ≤ t) (g' : GM) (e1 : g'.done = g.done) (e2 : g'.R.head = g.R.head) (e3 : g'.pub = g.pub) : prog F W g g' t := by
  refine prog_of hF e1 (.inr ⟨?_, fun hr => ?_, fun u hu hr => ?_⟩)
  · unfold sv ppc
    rw [e2, e3, if_pos hA, if_pos hA]
  · unfold Rsp rsp at hr
    rw [if_pos hA] at hr
    omega
  · unfold Rsp rsp at hr ⊢
    rw [if_pos hA] at hr
    rw [e1, e2, if_pos hA]
    exact hr
theorem progB (I : CtlI K F W Tk g) (hF : g.done < F) (hA : ¬ g.R.head ≤ g.done) (hD : g.R.dealt = g.done) {t : Nat} (h1 : 1 ≤ t) (h2 : t ≤ W) {M' : AM} {x' : Wk} (hs : st g.done x' ≤ st g.done (g.w t)) (hs' : 0 < st g.done (g.w t) → st g.done x' < st g.done (g.w t))
    (hc : st g.done (g.w t) = 0 → (M'.lo 0 = g.M.lo 0 ∧ g.M.lo 0 = -1 ∧ pcw x' = pcw (g.w t) + 1 ∧ pcw x' ≤ 2) ∨ (g.M.lo 0 = -1 ∧ M'.lo 0 = t ∧ pcw x' = 3) ∨ (M'.lo 0 = g.M.lo 0 ∧ g.M.lo 0 ≠ -1 ∧ g.M.lo 0 ≠ t) ∨ (M'.lo 0 = g.M.lo 0 ∧ g.M.lo 0 = t ∧ pcw (g.w t) = 3 ∧ pcw x' = 4)) :
    prog F W g { g with M := M', w := upd g.w t x' } t := by
  have nha : ∀ t', 1 ≤ t' → t' ≤ W → ¬ hold (g.w t') := fun t' h3 h4 h => by have := (okW_hold (I.wk t' h3 h4) h).1; omega
  have h := vb_step (lo := g.M.lo 0) (lo' := M'.lo 0) (w := g.w) (show 1 ≤ W by omega) h1 h2 hs hs' (fun hl => ?_) (fun h0 => ?_)
  · refine prog_of hF rfl ?_
    show sv W g.done g.R.dealt g.R.head (ppc g) (M'.lo 0) (upd g.w t x') < _ ∨ (sv W g.done g.R.dealt g.R.head (ppc g) (M'.lo 0) (upd g.w t x') = _ ∧ _)
    unfold sv
    rw [if_neg hA, if_neg hA, if_pos hD, if_pos hD]
    rcases h with h | ⟨q1, q2, q3⟩
    · left; omega
    · right
      refine ⟨by rw [q1], fun hr => ?_, fun u hu hr => ?_⟩
      · unfold Rsp rsp at hr
        rw [if_neg hA, if_pos hD] at hr
        exact q2 hr.2.2
      · show rsp W g.done g.R.dealt g.R.head (M'.lo 0) (upd g.w t x') u
        unfold Rsp rsp at hr
        unfold rsp
        rw [if_neg hA, if_pos hD] at hr
        rw [if_neg hA, if_pos hD]
        exact ⟨hr.1, hr.2.1, q3 u hu hr.2.2⟩
  · rcases I.wk 1 (by omega) (by omega) with ⟨_, h⟩ | ⟨_, o, q1, q2, q3, q4⟩ | ⟨h, _⟩
    · unfold pcw; rw [h]; exact Nat.zero_le _
    · unfold pcw; rw [q1]
      show o.pc ≤ 2
      by_cases hp : 3 ≤ o.pc
      · have := (I.lk 1 (by omega) (by omega)).1 ⟨o, q1, q2, hp⟩
        omega
      · omega
    · exact absurd (.inl h) (nha 1 (by omega) (by omega))
  · rcases hc h0 with h | h | ⟨q1, q2, q3⟩ | h
    · exact .inl h
    · exact .inr (.inl h)
    · refine .inr (.inr (.inl ⟨q1, q2, ?_, q3⟩))
      rcases I.lk0 with h | ⟨t', _, _, h⟩
      · exact absurd h q2
      · omega
    · exact .inr (.inr (.inr h))
end Go.Proofs.Ytcmlnjkbdlakfaa
/- A run at a ring: it ends, as it should. -/
set_option linter.unusedSimpArgs false
set_option linter.unusedVariables false
namespace Go.Proofs.Ytcmlnjkbdlakfaa
variable {K F W : Nat} {Tk : Nat → Int} {g : GM}
theorem st_some {T : Nat} {x : Wk} {o : RO} (h : x.o = some o) : st T x = stv T o := by unfold st; rw [h]
theorem st_none {T : Nat} {x : Wk} (h : x.o = none) : st T x = 0 := by unfold st; rw [h]
theorem pcw_some {x : Wk} {o : RO} (h : x.o = some o) : pcw x = o.pc := by unfold pcw; rw [h]
theorem pcw_none {x : Wk} (h : x.o = none) : pcw x = 0 := by unfold pcw; rw [h]
theorem stv1 {T : Nat} {o : RO} (h : o.pc = 1) : stv T o = if o.n = T then 0 else 4 := by unfold stv; rw [if_pos h]
theorem stv2 {T : Nat} {o : RO} (h : o.pc = 2) : stv T o = if o.n < o.got then (if o.n = T then 0 else 3) else 1 := by unfold stv; rw [if_neg (by omega), if_pos h]
theorem stv3 {T : Nat} {o : RO} (h : o.pc = 3) : stv T o = if o.n = T then 0 else 2 := by unfold stv; rw [if_neg (by omega), if_neg (by omega), if_pos h]
theorem stv6 {T : Nat} {o : RO} (h : o.pc = 6) : stv T o = if o.n = -1 then 1 else 0 := by unfold stv; rw [if_neg (by omega), if_neg (by omega), if_neg (by omega), if_pos h]
theorem stv0 {T : Nat} {o : RO} (h : o.pc ≠ 1 ∧ o.pc ≠ 2 ∧ o.pc ≠ 3 ∧ o.pc ≠ 6) : stv T o = 0 := by unfold stv; rw [if_neg h.1, if_neg h.2.1, if_neg h.2.2.1, if_neg h.2.2.2]
theorem ws_same {t : Nat} {g' : GM} (h : WS K Tk g t g') : (g'.done = g.done ∧ g'.R.head = g.R.head ∧ g'.pub = g.pub) ∨ 0 < (g.w t).left := by
  cases h with
  | f1 o hr ho kd p hl e => exact .inr (by omega)
  | c0 o hx ho kd hw p e => rw [e]; exact .inl ⟨rfl, rfl, rfl⟩
  | c1 o hx ho kd hw p n0 n1 e => rw [e]; exact .inl ⟨rfl, rfl, rfl⟩
  | c2n o hx ho kd hw p n0 n1 gh hg e => rw [e]; exact .inl ⟨rfl, rfl, rfl⟩
  | c2l o hx ho kd hw p n0 n1 gh hg hl e => rw [e]; exact .inl ⟨rfl, rfl, rfl⟩
  | c2f o hx ho kd hw p n0 n1 gh hg hl e => rw [e]; exact .inl ⟨rfl, rfl, rfl⟩
  | c3y o hx ho kd hw p n0 hD hg gh hl e => rw [e]; exact .inl ⟨rfl, rfl, rfl⟩
  | c3n o hx ho kd hw p n0 n1 hD hl e => rw [e]; exact .inl ⟨rfl, rfl, rfl⟩
  | c4 o hx ho kd hw p n0 hD hg gh hl e => rw [e]; exact .inl ⟨rfl, rfl, rfl⟩
  | c5 o hx ho kd hw p n0 hD hl e => rw [e]; exact .inl ⟨rfl, rfl, rfl⟩
  | c6n o hx ho kd hw p n0 hl e => rw [e]; exact .inl ⟨rfl, rfl, rfl⟩
  | c6y o hx ho kd hw p n0 hD hdH hl e => rw [e]; exact .inl ⟨rfl, rfl, rfl⟩
  | rd hx hr ho hf e => rw [e]; exact .inl ⟨rfl, rfl, rfl⟩
  | f0l o hx hr ho kd hw p n0 hl ha e => exact .inr hx
  | f0m hx hr hl ho hf e => exact .inr hx
theorem prog_workB (I : CtlI K F W Tk g) (hF : g.done < F) (hA : ¬ g.R.head ≤ g.done) (hD : g.R.dealt = g.done) {t : Nat} (h1 : 1 ≤ t) (h2 : t ≤ W) {g' : GM} (h : WS K Tk g t g') : prog F W g g' t := by
  have nha : ∀ t', 1 ≤ t' → t' ≤ W → ¬ hold (g.w t') := fun t' h3 h4 h => by have := (okW_hold (I.wk t' h3 h4) h).1; omega
  have nl : ∀ {o : RO}, (g.w t).o = some o → o.pc < 3 → g.M.lo 0 ≠ t := fun {o} ho hp h => by
    obtain ⟨o', q1, q2, q3⟩ := (I.lk t h1 h2).2 h
    rw [ho] at q1
    have := Option.some.inj q1
    subst this; omega
  have nl0 : (g.w t).o = none → g.M.lo 0 ≠ t := fun ho h => by
    obtain ⟨o', q1, q2, q3⟩ := (I.lk t h1 h2).2 h
    rw [ho] at q1; cases q1
  cases h with
  | c0 o hx ho kd hw p e =>
    rw [e]
    have s0 : st g.done (g.w t) = 0 := by
      rcases ho with ho | ho
      · rw [st_some ho, stv0 (by omega)]
      · exact st_none ho
    have p0 : pcw (g.w t) = 0 := by
      rcases ho with ho | ho
      · rw [pcw_some ho, p]
      · exact pcw_none ho
    have s1 : st g.done { g.w t with o := some { o with pc := 1, n := g.done } } = 0 := (st_some rfl).trans ((stv1 rfl).trans (if_pos rfl))
    refine progB I hF hA hD h1 h2 (by omega) (by omega) fun _ => ?_
    have : g.M.lo 0 ≠ t := by
      rcases ho with ho | ho
      · exact nl ho (by omega)
      · exact nl0 ho
    by_cases hl : g.M.lo 0 = -1
    · exact .inl ⟨rfl, hl, by rw [p0]; rfl, by show 1 ≤ 2; omega⟩
    · exact .inr (.inr (.inl ⟨rfl, hl, this⟩))
  | c1 o hx ho kd hw p n0 n1 e =>
    rw [e]
    have s0 := (st_some (T := g.done) ho).trans (stv1 p)
    have s1 : st g.done { g.w t with o := some { o with pc := 2, got := g.R.head } } = if o.n < g.R.head then (if o.n = g.done then 0 else 3) else 1 := (st_some rfl).trans (stv2 rfl)
    rw [if_pos (by omega)] at s1
    have hle : st g.done { g.w t with o := some { o with pc := 2, got := g.R.head } } ≤ st g.done (g.w t) ∧ (0 < st g.done (g.w t) → st g.done { g.w t with o := some { o with pc := 2, got := g.R.head } } < st g.done (g.w t)) := by
      rw [s0, s1]; split <;> omega
    refine progB I hF hA hD h1 h2 hle.1 hle.2 fun _ => ?_
    by_cases hl : g.M.lo 0 = -1
    · exact .inl ⟨rfl, hl, by rw [pcw_some ho, p]; rfl, Nat.le_refl 2⟩
    · exact .inr (.inr (.inl ⟨rfl, hl, nl ho (by omega)⟩))
  | c2n o hx ho kd hw p n0 n1 gh hg e =>
    rw [e]
    have s0 := (st_some (T := g.done) ho).trans (stv2 p)
    rw [if_neg (by omega)] at s0
    have s1 : st g.done { g.w t with o := none } = 0 := st_none rfl
    exact progB I hF hA hD h1 h2 (by omega) (by omega) (by omega)
  | c2l o hx ho kd hw p n0 n1 gh hg hl e =>
    rw [e]
    have s0 := (st_some (T := g.done) ho).trans (stv2 p)
    rw [if_pos (by omega)] at s0
    have s1 : st g.done { g.w t with o := some { o with pc := 3 } } = if o.n = g.done then 0 else 2 := (st_some rfl).trans (stv3 (o := { o with pc := 3 }) rfl)
    have hle : st g.done { g.w t with o := some { o with pc := 3 } } ≤ st g.done (g.w t) ∧ (0 < st g.done (g.w t) → st g.done { g.w t with o := some { o with pc := 3 } } < st g.done (g.w t)) := by
      rw [s0, s1]; split <;> omega
    have hlo : (g.M.lock t 0).lo 0 = t := by
      unfold AM.lock
      rw [if_pos hl]
      exact upd_same g.M.lo 0 (t : Int)
    exact progB I hF hA hD h1 h2 hle.1 hle.2 fun _ => .inr (.inl ⟨hl, hlo, rfl⟩)
  | c2f o hx ho kd hw p n0 n1 gh hg hl e =>
    rw [e]
    have s0 := (st_some (T := g.done) ho).trans (stv2 p)
    rw [if_pos (by omega)] at s0
    have s1 : st g.done { g.w t with o := none } = 0 := st_none rfl
    have hlo : (g.M.lock t 0).lo = g.M.lo := by unfold AM.lock; rw [if_neg hl]; rfl
    exact progB I hF hA hD h1 h2 (by omega) (by omega) fun _ => .inr (.inr (.inl ⟨by rw [hlo], hl, nl ho (by omega)⟩))
  | c3y o hx ho kd hw p n0 hD hg gh hl e =>
    rw [e]
    have s1 : st g.done { g.w t with o := some { o with pc := 4 } } = 0 := (st_some rfl).trans (stv0 (by show (4 : Nat) ≠ 1 ∧ (4 : Nat) ≠ 2 ∧ (4 : Nat) ≠ 3 ∧ (4 : Nat) ≠ 6; omega))
    exact progB I hF hA hD h1 h2 (by omega) (by omega) fun _ => .inr (.inr (.inr ⟨rfl, hl, by rw [pcw_some ho, p], rfl⟩))
  | c3n o hx ho kd hw p n0 n1 hD' hl e =>
    rw [e]
    have s0 := (st_some (T := g.done) ho).trans (stv3 p)
    rw [if_neg (by omega)] at s0
    have s1 : st g.done { g.w t with o := some { o with pc := 6, n := -1 } } = 1 := (st_some rfl).trans ((stv6 rfl).trans (if_pos rfl))
    exact progB I hF hA hD h1 h2 (by omega) (by omega) (by omega)
  | c4 o hx ho kd hw p n0 hD' hg gh hl e =>
    rw [e]
    refine prog_of hF rfl (.inl ?_)
    show sv W g.done (g.R.dealt + 1) g.R.head _ _ (upd g.w t { g.w t with o := some { o with pc := 5 } }) < _
    have hs := sumW_upd hv g.w t { g.w t with o := some { o with pc := 5 } } W h1 h2
    have hz : sumW (fun i => hv (g.w i)) W = 0 := sumW_zero W fun i h3 h4 => hv_no (nha i h3 h4)
    have h5 : hv { g.w t with o := some { o with pc := 5 } } = 11 := (hv_some (x := { g.w t with o := some { o with pc := 5 } }) hx rfl kd).trans (if_pos rfl)
    unfold sv
    rw [if_neg hA, if_neg hA, if_neg (show ¬ g.R.dealt + 1 = g.done by omega), if_pos hD]
    have : 0 < vb W g.done (g.M.lo 0) g.w := by
      by_cases hp : 0 < sumW (fun i => st g.done (g.w i)) W
      · rw [vb_pos hp]; omega
      · rw [vb_lock hp (by omega), hl]
        have e : (t : Int).toNat = t := rfl
        rw [e, pcw_some ho, p]; omega
    omega
  | c5 o hx ho kd hw p n0 hD' hl e => omega
  | c6n o hx ho kd hw p n0 hl e =>
    rw [e]
    have s0 := (st_some (T := g.done) ho).trans (stv6 p)
    rw [if_pos n0] at s0
    have s1 : st g.done { g.w t with o := none } = 0 := st_none rfl
    exact progB I hF hA hD h1 h2 (by omega) (by omega) (by omega)
  | c6y o hx ho kd hw p n0 hD' hdH hl e => omega
  | rd hx hr ho hf e => exact absurd (.inl hx) (nha t h1 h2)
  | f0l o hx hr ho kd hw p n0 hl ha e => exact absurd (.inl hx) (nha t h1 h2)
  | f0m hx hr hl ho hf e => exact absurd (.inl hx) (nha t h1 h2)
  | f1 o hr ho kd p hl e => exact absurd (.inl (by omega)) (nha t h1 h2)
theorem prog_workC (hW : W ≤ 5) (hT : ∀ f, f < F → Tk f ≤ 4) (I : CtlI K F W Tk g) (hF : g.done < F) (hA : ¬ g.R.head ≤ g.done) (hD : g.R.dealt = g.done + 1) {t : Nat} (h1 : 1 ≤ t) (h2 : t ≤ W) {g' : GM} (h : WS K Tk g t g') : prog F W g g' t := by
  have hD0 : g.R.dealt ≠ g.done := by omega
  have hpos := I.tk g.done hF
  have hT4 := hT g.done hF
  cases h with
  | c0 o hx ho kd hw p e =>
    rw [e]
    refine progC2 hF hA hD0 h1 h2 (fun h => ?_) (fun h => ?_)
    · have := (hold_some (o := { o with pc := 1, n := g.done }) hx kd).1 h
      simp at this
    · rcases ho with ho | ho
      · have := (hold_o hx ho kd).1 h; omega
      · exact hold_no hx ho h
  | c1 o hx ho kd hw p n0 n1 e =>
    rw [e]
    refine progC2 hF hA hD0 h1 h2 (fun h => ?_) (fun h => ?_)
    · have := (hold_some (o := { o with pc := 2, got := g.R.head }) hx kd).1 h
      simp at this
    · have := (hold_o hx ho kd).1 h; omega
  | c2n o hx ho kd hw p n0 n1 gh hg e =>
    rw [e]
    exact progC2 hF hA hD0 h1 h2 (hold_none hx) (fun h => by have := (hold_o hx ho kd).1 h; omega)
  | c2l o hx ho kd hw p n0 n1 gh hg hl e =>
    rw [e]
    refine progC2 hF hA hD0 h1 h2 (fun h => ?_) (fun h => ?_)
    · have := (hold_some (o := { o with pc := 3 }) hx kd).1 h
      simp at this
    · have := (hold_o hx ho kd).1 h; omega
  | c2f o hx ho kd hw p n0 n1 gh hg hl e =>
    rw [e]
    exact progC2 hF hA hD0 h1 h2 (hold_none hx) (fun h => by have := (hold_o hx ho kd).1 h; omega)
  | c3y o hx ho kd hw p n0 hD' hg gh hl e => omega
  | c3n o hx ho kd hw p n0 n1 hD' hl e =>
    rw [e]
    refine progC2 hF hA hD0 h1 h2 (fun h => ?_) (fun h => ?_)
    · have := (hold_some (o := { o with pc := 6, n := -1 }) hx kd).1 h
      simp at this
    · have := (hold_o hx ho kd).1 h; omega
  | c4 o hx ho kd hw p n0 hD' hg gh hl e => omega
  | c5 o hx ho kd hw p n0 hD' hl e =>
    rw [e]
    refine progC1 (n' := g.ncl) hF hA hD0 h1 h2 ?_
    have e1 : hv { g.w t with o := some { o with pc := 6 } } = 10 := by
      rw [hv_some (x := { g.w t with o := some { o with pc := 6 } }) hx rfl kd]
      show (if (6 : Nat) = 5 then 11 else if (6 : Nat) = 6 ∧ o.n ≠ -1 then 10 else 0) = 10
      rw [if_neg (by omega), if_pos ⟨rfl, by omega⟩]
    have e2 : hv (g.w t) = 11 := by rw [hv_some hx ho kd, if_pos p]
    rw [e1, e2]; omega
  | c6n o hx ho kd hw p n0 hl e =>
    rw [e]
    exact progC2 hF hA hD0 h1 h2 (hold_none hx) (fun h => by have := (hold_o hx ho kd).1 h; omega)
  | c6y o hx ho kd hw p n0 hD' hdH hl e =>
    rw [e]
    refine progC1 hF hA hD0 h1 h2 ?_
    have e1 : hv ⟨none, g.done, Tk g.done, (g.w t).read⟩ ≤ 9 := by
      rw [hv_left (x := ⟨none, g.done, Tk g.done, (g.w t).read⟩) hpos]
      show 2 * (Tk g.done).toNat + 1 - _ - _ ≤ 9
      omega
    have e2 : hv (g.w t) = 10 := by rw [hv_some hx ho kd, if_neg (by omega), if_pos ⟨p, by omega⟩]
    omega
  | rd hx hr ho hf e =>
    rw [e]
    refine progC1 (n' := g.ncl) hF hA hD0 h1 h2 ?_
    have p0 : pcw (g.w t) = 0 := pcw_none ho
    have p1 : pcw { g.w t with read := true } = 0 := pcw_none ho
    rw [hv_left (x := { g.w t with read := true }) hx, hv_left hx, p0, p1, hr]
    show 2 * (g.w t).left.toNat + 1 - 1 - 0 < 2 * (g.w t).left.toNat + 1 - 0 - 0
    omega
  | f0l o hx hr ho kd hw p n0 hl ha e =>
    rw [e]
    refine progC1 (n' := g.ncl) hF hA hD0 h1 h2 ?_
    have p0 : pcw (g.w t) = 0 := by
      rcases ho with ho | ho
      · rw [pcw_some ho, p]
      · exact pcw_none ho
    have p1 : pcw { g.w t with o := some { o with pc := 1 } } = 1 := rfl
    rw [hv_left (x := { g.w t with o := some { o with pc := 1 } }) hx, hv_left hx, p0, p1]
    show 2 * (g.w t).left.toNat + 1 - (if (g.w t).read = true then 1 else 0) - 1 < 2 * (g.w t).left.toNat + 1 - (if (g.w t).read = true then 1 else 0) - 0
    rw [hr, hl]
    decide
  | f0m hx hr hl ho hf e =>
    rw [e]
    refine progC1 (n' := g.ncl) hF hA hD0 h1 h2 ?_
    have p0 : pcw (g.w t) = 0 := by
      rcases ho with ho | ⟨o, ho, _, p⟩
      · exact pcw_none ho
      · rw [pcw_some ho, p]
    have p1 : pcw ⟨none, (g.w t).frame, (g.w t).left - 1, false⟩ = 0 := rfl
    have hx' : 0 < (g.w t).left - 1 := by omega
    rw [hv_left (x := ⟨none, (g.w t).frame, (g.w t).left - 1, false⟩) hx', hv_left hx, p0, p1, hr]
    show 2 * ((g.w t).left - 1).toNat + 1 - 0 - 0 < 2 * (g.w t).left.toNat + 1 - 1 - 0
    omega
  | f1 o hr ho kd p hl e =>
    rw [e]
    left
    have p0 : pcw (g.w t) = 1 := by rw [pcw_some ho, p]
    have e2 : hv (g.w t) = 1 := by
      rw [hv_left (by omega), p0, hr, hl]
      decide
    have hle := le_sumW (f := fun i => hv (g.w i)) W t h1 h2
    have hle : hv (g.w t) ≤ sumW (fun i => hv (g.w i)) W := hle
    rw [phi_eq hF]
    unfold sv
    rw [if_neg hA, if_neg hD0]
    unfold phi
    show (if F ≤ g.done + 1 then 0 else 40 * (F - (g.done + 1) - 1) + sv W (g.done + 1) g.R.dealt g.R.head _ _ _) < _
    split
    · omega
    · unfold sv
      rw [if_pos (show g.R.dealt = g.done + 1 from hD)]
      have := vb_le W (g.done + 1) (g.M.lo 0) (upd g.w t ⟨none, (g.w t).frame, 0, false⟩)
      split
      · omega
      · show _ + (11 + vb W (g.done + 1) (g.M.lo 0) (upd g.w t ⟨none, (g.w t).frame, 0, false⟩)) < _
        omega
theorem prog_work (hW : W ≤ 5) (hT : ∀ f, f < F → Tk f ≤ 4) (I : CtlI K F W Tk g) (hF : g.done < F) {t : Nat} (h1 : 1 ≤ t) (h2 : t ≤ W) : prog F W g (gwork F Tk g t) t := by
  have h := ws_of I h1 h2
  have hb := I.b
  by_cases hA : g.R.head ≤ g.done
  · rcases ws_same h with ⟨e1, e2, e3⟩ | hx
    · exact progA hF hA h1 _ e1 e2 e3
    · have := (okW_hold (I.wk t h1 h2) (.inl hx)).2
      omega
  · by_cases hD : g.R.dealt = g.done
    · exact prog_workB I hF hA hD h1 h2 h
    · exact prog_workC hW hT I hF hA (by omega) h1 h2 h
theorem prog_gstep (hW : W ≤ 5) (hT : ∀ f, f < F → Tk f ≤ 4) (I : CtlI K F W Tk g) (hF : g.done < F) {t : Nat} (h : t ≤ W) : prog F W g (gstep F W Tk g t) t := by
  unfold gstep
  by_cases e : t = 0
  · rw [if_pos e, e]; exact prog_pub hW I hF
  · rw [if_neg e]; exact prog_work hW hT I hF (by omega) h
/-- Somebody brings it nearer. -/
theorem rsp_ex (I : CtlI K F W Tk g) (hW : 1 ≤ W) : ∃ u, u ≤ W ∧ Rsp W g u := by
  have hb := I.b
  by_cases hA : g.R.head ≤ g.done
  · exact ⟨0, Nat.zero_le _, by unfold Rsp rsp; rw [if_pos hA]⟩
  · by_cases hD : g.R.dealt = g.done
    · by_cases hp : 0 < sumW (fun i => st g.done (g.w i)) W
      · obtain ⟨t, h1, h2, h3⟩ := sumW_pos W hp
        exact ⟨t, h2, by unfold Rsp rsp; rw [if_neg hA, if_pos hD, if_pos hp]; exact ⟨h1, h2, h3⟩⟩
      · rcases I.lk0 with h | ⟨t, h1, h2, h⟩
        · exact ⟨1, hW, by unfold Rsp rsp; rw [if_neg hA, if_pos hD, if_neg hp, if_pos h]; exact ⟨Nat.le_refl 1, hW, rfl⟩⟩
        · exact ⟨t, h2, by unfold Rsp rsp; rw [if_neg hA, if_pos hD, if_neg hp, if_neg (by omega)]; exact ⟨h1, h2, h⟩⟩
    · obtain ⟨t, h1, h2, h⟩ := I.som (by omega)
      refine ⟨t, h2, ?_⟩
      unfold Rsp rsp
      rw [if_neg hA, if_neg hD]
      refine ⟨h1, h2, ?_⟩
      by_cases hx : 0 < (g.w t).left
      · rw [hv_left hx]
        split <;> split <;> omega
      · rcases I.wk t h1 h2 with ⟨q, q'⟩ | ⟨q, o, q1, q2, _⟩ | ⟨q, _⟩
        · exact absurd h (hold_no q q')
        · rw [hv_some q q1 q2]
          rcases (hold_o q q1 q2).1 h with h | h
          · rw [if_pos h]; omega
          · rw [if_neg (by omega), if_pos h]; omega
        · exact absurd q hx
end Go.Proofs.Ytcmlnjkbdlakfaa
/- A run at a ring: what it comes to. -/
set_option linter.unusedSimpArgs false
set_option linter.unusedVariables false
namespace Go.Proofs.Ytcmlnjkbdlakfaa
/-- A run, by whose turn it is. -/
def grun (K F W : Nat) (Tk : Nat → Int) (sch : Nat → Nat) : Nat → GM
  | 0 => GM.new K W
  | i + 1 => gstep F W Tk (grun K F W Tk sch i) (sch i)
section
variable {K F W : Nat} {Tk : Nat → Int} {sch : Nat → Nat}
theorem grun_ctl (hK : 0 < K) (hT : ∀ f, f < F → 0 < Tk f) (hs : ∀ i, sch i ≤ W) : ∀ i, CtlI K F W Tk (grun K F W Tk sch i)
  | 0 => ctl_new hK hT
  | i + 1 => (grun_ctl hK hT hs i).gstep (hs i)
theorem grun_clk (hK : 0 < K) (hT : ∀ f, f < F → 0 < Tk f) (hs : ∀ i, sch i ≤ W) : ∀ i, ClkI K W (grun K F W Tk sch i)
  | 0 => clk_new K W
  | i + 1 => ClkI.gstep (grun_ctl hK hT hs i) (grun_clk hK hT hs i) (hs i)
theorem phi_mono (hW : W ≤ 5) (hK : 0 < K) (hT : ∀ f, f < F → 0 < Tk f) (hT4 : ∀ f, f < F → Tk f ≤ 4) (hs : ∀ i, sch i ≤ W) (i : Nat) : ∀ n, (∀ j, j < n → (grun K F W Tk sch (i + j)).done < F) → phi F W (grun K F W Tk sch (i + n)) ≤ phi F W (grun K F W Tk sch i)
  | 0, _ => Nat.le_refl _
  | n + 1, h => by
    have h1 := phi_mono hW hK hT hT4 hs i n fun j hj => h j (by omega)
    have h2 : prog F W _ (grun K F W Tk sch (i + (n + 1))) _ := prog_gstep hW hT4 (grun_ctl hK hT hs (i + n)) (h n (by omega)) (hs (i + n))
    rcases h2 with h2 | ⟨h2, _⟩ <;> omega
theorem phi_drop (hW : W ≤ 5) (hK : 0 < K) (hT : ∀ f, f < F → 0 < Tk f) (hT4 : ∀ f, f < F → Tk f ≤ 4) (hs : ∀ i, sch i ≤ W) (u : Nat) : ∀ n i, Rsp W (grun K F W Tk sch i) u → (∃ j, j < n ∧ sch (i + j) = u) → (∀ j, j < n → (grun K F W Tk sch (i + j)).done < F) → phi F W (grun K F W Tk sch (i + n)) < phi F W (grun K F W Tk sch i)
  | 0, i, _, h, _ => by obtain ⟨j, h, _⟩ := h; omega
  | n + 1, i, hr, ⟨j, hj, hu⟩, h => by
    have h2 : prog F W (grun K F W Tk sch i) (grun K F W Tk sch (i + 1)) (sch i) := prog_gstep hW hT4 (grun_ctl hK hT hs i) (h 0 (by omega)) (hs i)
    have ho : ∀ j, j < n → (grun K F W Tk sch (i + 1 + j)).done < F := fun j hj => by
      have := h (1 + j) (by omega)
      rw [← Nat.add_assoc] at this; exact this
    have hm := phi_mono hW hK hT hT4 hs (i + 1) n ho
    rw [show i + (n + 1) = i + 1 + n by omega]
    rcases h2 with h2 | ⟨h2, h3, h4⟩
    · omega
    · rw [← h2]
      have hj0 : j ≠ 0 := fun e => by
        subst e
        rw [Nat.add_zero] at hu
        subst hu; exact h3 hr
      have hne : u ≠ sch i := fun e => by subst e; exact h3 hr
      refine phi_drop hW hK hT hT4 hs u n (i + 1) (h4 u hne hr) ⟨j - 1, by omega, ?_⟩ ho
      rw [show i + 1 + (j - 1) = i + j by omega]; exact hu
theorem turn_ex (W a u : Nat) (hu : u ≤ W) : ∃ j, j < W + 1 ∧ (a + j) % (W + 1) = u := by
  have h1 := Nat.mod_lt a (show 0 < W + 1 by omega)
  have h2 := Nat.div_add_mod a (W + 1)
  by_cases h : a % (W + 1) ≤ u
  · refine ⟨u - a % (W + 1), by omega, ?_⟩
    rw [show a + (u - a % (W + 1)) = u + (W + 1) * (a / (W + 1)) by omega, Nat.add_mul_mod_self_left]
    exact Nat.mod_eq_of_lt (by omega)
  · refine ⟨u + (W + 1) - a % (W + 1), by omega, ?_⟩
    rw [show a + (u + (W + 1) - a % (W + 1)) = u + (W + 1) * (a / (W + 1) + 1) by rw [Nat.mul_add]; omega, Nat.add_mul_mod_self_left]
    exact Nat.mod_eq_of_lt (by omega)
theorem grun_ends {P : Nat} (hK : 0 < K) (hW1 : 1 ≤ W) (hW : W ≤ 5) (hF : F ≤ 8) (hT : ∀ f, f < F → 0 < Tk f) (hT4 : ∀ f, f < F → Tk f ≤ 4) (hs : ∀ i, sch i ≤ W) (ht : ∀ i, P ≤ i → sch i = i % (W + 1)) : ∃ i, i ≤ P + 2000 ∧ F ≤ (grun K F W Tk sch i).done := by
  refine Classical.byContradiction fun hn => ?_
  have hlt : ∀ i, i ≤ P + 2000 → (grun K F W Tk sch i).done < F := fun i hi => by
    by_cases h : F ≤ (grun K F W Tk sch i).done
    · exact absurd ⟨i, hi, h⟩ hn
    · omega
  have h0 : phi F W (grun K F W Tk sch 0) ≤ 320 := by
    rw [phi_eq (hlt 0 (by omega))]
    show 40 * (F - 0 - 1) + sv W 0 0 0 0 (-1) _ ≤ 320
    unfold sv
    rw [if_pos (Nat.le_refl 0)]
    have := hlt 0 (by omega)
    omega
  have hP := phi_mono (K := K) hW hK hT hT4 hs 0 P fun j hj => hlt (0 + j) (by omega)
  rw [Nat.zero_add] at hP
  have key : ∀ k, k ≤ 321 → phi F W (grun K F W Tk sch (P + (W + 1) * k)) + k ≤ phi F W (grun K F W Tk sch P) := by
    intro k
    induction k with
    | zero => intro _; exact Nat.le_refl _
    | succ k ih =>
      intro hk
      have h1 := ih (by omega)
      have hb : (W + 1) * (k + 1) ≤ 6 * 321 := Nat.mul_le_mul (by omega) hk
      have hb' : (W + 1) * (k + 1) = (W + 1) * k + (W + 1) := Nat.mul_succ _ _
      obtain ⟨u, hu, hr⟩ := rsp_ex (grun_ctl (K := K) hK hT hs (P + (W + 1) * k)) hW1
      obtain ⟨j, hj, hju⟩ := turn_ex W (P + (W + 1) * k) u hu
      have h2 := phi_drop hW hK hT hT4 hs u (W + 1) (P + (W + 1) * k) hr ⟨j, hj, by rw [ht _ (by omega)]; exact hju⟩ fun j hj => hlt _ (by omega)
      rw [show P + (W + 1) * (k + 1) = P + (W + 1) * k + (W + 1) by omega]
      omega
  have := key 321 (Nat.le_refl _)
  omega
theorem least (p : Nat → Prop) : ∀ n, p n → ∃ m, m ≤ n ∧ p m ∧ ∀ i, i < m → ¬ p i
  | 0, h => ⟨0, Nat.le_refl 0, h, fun i hi => absurd hi (Nat.not_lt_zero i)⟩
  | n + 1, h => by
    by_cases e : ∃ i, i ≤ n ∧ p i
    · obtain ⟨i, h1, h2⟩ := e
      obtain ⟨m, h3, h4, h5⟩ := least p i h2
      exact ⟨m, by omega, h4, h5⟩
    · exact ⟨n + 1, Nat.le_refl _, h, fun i hi hp => e ⟨i, by omega, hp⟩⟩
termination_by n => n
/-- However steps come: the run ends in time, with each frame claimed, and nothing clashes. -/
theorem ring_order {P : Nat} (hK : 0 < K) (hW1 : 1 ≤ W) (hW : W ≤ 5) (hF : F ≤ 8) (hT : ∀ f, f < F → 0 < Tk f) (hT4 : ∀ f, f < F → Tk f ≤ 4) (hs : ∀ i, sch i ≤ W) (ht : ∀ i, P ≤ i → sch i = i % (W + 1)) :
    ∃ N, N ≤ P + 2000 ∧ (∀ i, i < N → (grun K F W Tk sch i).done < F) ∧ (grun K F W Tk sch N).done = F ∧ (grun K F W Tk sch N).ncl = F ∧ (∀ i, (grun K F W Tk sch i).wrong = false ∧ (grun K F W Tk sch i).M.cl = []) := by
  obtain ⟨i, hi, hd⟩ := grun_ends (K := K) hK hW1 hW hF hT hT4 hs ht
  obtain ⟨N, h1, h2, h3⟩ := least (fun i => F ≤ (grun K F W Tk sch i).done) i hd
  have I := grun_ctl (K := K) hK hT hs N
  have hb := I.b
  have hdn : (grun K F W Tk sch N).done = F := by omega
  refine ⟨N, by omega, fun i hi => ?_, hdn, ?_, fun i => ⟨(grun_ctl hK hT hs i).wr, (grun_clk hK hT hs i).cl⟩⟩
  · have := h3 i hi
    show _ < F
    have : ¬ F ≤ (grun K F W Tk sch i).done := this
    omega
  · have := I.nc fun t h1 h2 h => by
      have := (okW_hold (I.wk t h1 h2) h).2
      omega
    omega
end
end Go.Proofs.Ytcmlnjkbdlakfaa
