/- A ring's operation by its numbers: what each step makes of it, of the ring and of the memory. -/
import Derived.Test.YtcmlnjkbdlakfaaAM
set_option linter.unusedSimpArgs false
namespace Go.Proofs.Ytcmlnjkbdlakfaa
/-- What an operation does. -/
inductive RK where
  | publish | await | stop | claim | finish
  deriving DecidableEq
/-- An operation: what it does, which step comes next, why it is done (0: it is not), its numbers, its tasks, its frame. -/
structure RO where
  kd : RK
  pc : Nat
  w : Int
  n : Int
  got : Int
  tasks : Int
  frame : Int
/-- A ring: how many slots, where its atoms, cells and its lock lie; how many frames were published and dealt. -/
structure RG where
  k : Nat
  a : Nat
  c : Nat
  l : Nat
  head : Nat
  dealt : Nat
def RO.new (kd : RK) (n tasks : Int) : RO := ⟨kd, 0, 0, n, 0, tasks, -1⟩
def sl (k : Nat) (n : Int) : Nat := (n % (k : Int)).toNat
theorem sl_lt {k : Nat} (hk : 0 < k) (n : Int) : sl k n < k := by
  have h1 := Int.emod_nonneg n (b := (k : Int)) (by omega)
  have h2 := Int.emod_lt_of_pos n (b := (k : Int)) (by omega)
  unfold sl; omega
/-- A memory, a ring, an operation. -/
structure RS where
  M : AM
  R : RG
  o : RO
/-- A step. -/
def stepR (s : RS) (t : Nat) : RS :=
  match s.o.kd with
  | .publish =>
    if s.o.pc = 0 then (if (s.R.k : Int) ≤ (s.R.head : Int) - s.M.av (s.R.a + 1) then ⟨s.M.load t (s.R.a + 1), s.R, s.o⟩ else ⟨s.M.load t (s.R.a + 1), s.R, { s.o with pc := 1 }⟩)
    else if s.o.pc = 1 then ⟨s.M.access t (s.R.c + 1 + sl s.R.k s.R.head) true, s.R, { s.o with pc := 2 }⟩
    else if s.o.pc = 2 then ⟨s.M.store t (s.R.a + 3 + sl s.R.k s.R.head) s.o.tasks, s.R, { s.o with pc := 3 }⟩
    else ⟨s.M.store t s.R.a (s.R.head + 1), { s.R with head := s.R.head + 1 }, { s.o with w := 1, frame := s.R.head }⟩
  | .await => if s.M.av (s.R.a + 1) < s.o.n then ⟨s.M.load t (s.R.a + 1), s.R, s.o⟩ else ⟨s.M.load t (s.R.a + 1), s.R, { s.o with w := 1 }⟩
  | .stop => ⟨s.M.store t (s.R.a + 2) 1, s.R, { s.o with w := 1 }⟩
  | .claim =>
    if s.o.pc = 0 then ⟨s.M.load t (s.R.a + 1), s.R, { s.o with pc := 1, n := s.M.av (s.R.a + 1) }⟩
    else if s.o.pc = 1 then ⟨s.M.load t s.R.a, s.R, { s.o with pc := 2, got := s.M.av s.R.a }⟩
    else if s.o.pc = 2 then (if s.o.got ≤ s.o.n then ⟨s.M.load t (s.R.a + 2), s.R, { s.o with w := if s.M.av (s.R.a + 2) = 0 then 2 else 3 }⟩
      else if s.M.lo s.R.l = -1 then ⟨s.M.lock t s.R.l, s.R, { s.o with pc := 3 }⟩ else ⟨s.M.lock t s.R.l, s.R, { s.o with w := 2 }⟩)
    else if s.o.pc = 3 then (if (s.R.dealt : Int) = s.o.n then ⟨s.M.access t s.R.c false, s.R, { s.o with pc := 4 }⟩ else ⟨s.M.access t s.R.c false, s.R, { s.o with pc := 6, n := -1 }⟩)
    else if s.o.pc = 4 then ⟨s.M.access t s.R.c true, { s.R with dealt := s.R.dealt + 1 }, { s.o with pc := 5 }⟩
    else if s.o.pc = 5 then ⟨s.M.access t (s.R.c + 1 + sl s.R.k s.o.n) false, s.R, { s.o with pc := 6 }⟩
    else (if s.o.n = -1 then ⟨s.M.unlock t s.R.l, s.R, { s.o with w := 2 }⟩ else ⟨s.M.unlock t s.R.l, s.R, { s.o with w := 1, frame := s.o.n }⟩)
  | .finish =>
    if s.o.pc = 0 then (if s.M.av (s.R.a + 3 + sl s.R.k s.o.n) = 1 then ⟨s.M.add t (s.R.a + 3 + sl s.R.k s.o.n) (s.M.av (s.R.a + 3 + sl s.R.k s.o.n) - 1), s.R, { s.o with pc := 1 }⟩
      else ⟨s.M.add t (s.R.a + 3 + sl s.R.k s.o.n) (s.M.av (s.R.a + 3 + sl s.R.k s.o.n) - 1), s.R, { s.o with w := 2 }⟩)
    else ⟨s.M.store t (s.R.a + 1) (s.o.n + 1), s.R, { s.o with w := 1 }⟩
def small (n : Int) : Prop := -1000000000 ≤ n ∧ n ≤ 1000000000
/-- Numbers are small; who unlocks has the lock. -/
structure FitsR (s : RS) (t : Nat) : Prop where
  n : small s.o.n
  at' : ∀ i, small (s.M.av i)
  head : s.R.head ≤ 1000000
  dealt : s.R.dealt ≤ 1000000
  pc : s.o.pc ≤ 6
  un : s.o.kd = .claim → s.o.pc = 6 → s.M.lo s.R.l = t
theorem clashes_len (n p t : Nat) (r w k : Nat → Int) (wr : Bool) : (clashes n p t r w k wr).length ≤ n := by
  unfold clashes
  rw [List.length_map]
  exact Nat.le_trans (List.length_filter_le _ _) (by simp)
/-- What a step keeps. -/
structure KeepR (s s' : RS) : Prop where
  n : s'.M.n = s.M.n
  na : s'.M.na = s.M.na
  np : s'.M.np = s.M.np
  nl : s'.M.nl = s.M.nl
  ops : s'.M.ops = s.M.ops + 1
  cl : s'.M.cl.length ≤ s.M.cl.length + s.M.n
  k : s'.R.k = s.R.k
  a : s'.R.a = s.R.a
  c : s'.R.c = s.R.c
  l : s'.R.l = s.R.l
  kd : s'.o.kd = s.o.kd
theorem load_keep (M : AM) (t a : Nat) : (M.load t a).n = M.n ∧ (M.load t a).na = M.na ∧ (M.load t a).np = M.np ∧ (M.load t a).nl = M.nl ∧ (M.load t a).ops = M.ops + 1 ∧ (M.load t a).cl.length ≤ M.cl.length + M.n := ⟨rfl, rfl, rfl, rfl, rfl, Nat.le_add_right _ _⟩
theorem store_keep (M : AM) (t a : Nat) (x : Int) : (M.store t a x).n = M.n ∧ (M.store t a x).na = M.na ∧ (M.store t a x).np = M.np ∧ (M.store t a x).nl = M.nl ∧ (M.store t a x).ops = M.ops + 1 ∧ (M.store t a x).cl.length ≤ M.cl.length + M.n := ⟨rfl, rfl, rfl, rfl, rfl, Nat.le_add_right _ _⟩
theorem add_keep (M : AM) (t a : Nat) (x : Int) : (M.add t a x).n = M.n ∧ (M.add t a x).na = M.na ∧ (M.add t a x).np = M.np ∧ (M.add t a x).nl = M.nl ∧ (M.add t a x).ops = M.ops + 1 ∧ (M.add t a x).cl.length ≤ M.cl.length + M.n := ⟨rfl, rfl, rfl, rfl, rfl, Nat.le_add_right _ _⟩
theorem unlock_keep (M : AM) (t a : Nat) : (M.unlock t a).n = M.n ∧ (M.unlock t a).na = M.na ∧ (M.unlock t a).np = M.np ∧ (M.unlock t a).nl = M.nl ∧ (M.unlock t a).ops = M.ops + 1 ∧ (M.unlock t a).cl.length ≤ M.cl.length + M.n := ⟨rfl, rfl, rfl, rfl, rfl, Nat.le_add_right _ _⟩
theorem lock_keep (M : AM) (t a : Nat) : (M.lock t a).n = M.n ∧ (M.lock t a).na = M.na ∧ (M.lock t a).np = M.np ∧ (M.lock t a).nl = M.nl ∧ (M.lock t a).ops = M.ops + 1 ∧ (M.lock t a).cl.length ≤ M.cl.length + M.n := by
  unfold AM.lock; split <;> exact ⟨rfl, rfl, rfl, rfl, rfl, Nat.le_add_right _ _⟩
theorem access_keep (M : AM) (t p : Nat) (w : Bool) : (M.access t p w).n = M.n ∧ (M.access t p w).na = M.na ∧ (M.access t p w).np = M.np ∧ (M.access t p w).nl = M.nl ∧ (M.access t p w).ops = M.ops + 1 ∧ (M.access t p w).cl.length ≤ M.cl.length + M.n := by
  refine ⟨rfl, rfl, rfl, rfl, rfl, ?_⟩
  show (M.cl ++ clashes _ _ _ _ _ _ _).length ≤ _
  rw [List.length_append]
  exact Nat.add_le_add_left (clashes_len _ _ _ _ _ _ _) _
theorem stepR_keep (s : RS) (t : Nat) : KeepR s (stepR s t) := by
  have f : ∀ (M' : AM) (R' : RG) (o' : RO), (M'.n = s.M.n ∧ M'.na = s.M.na ∧ M'.np = s.M.np ∧ M'.nl = s.M.nl ∧ M'.ops = s.M.ops + 1 ∧ M'.cl.length ≤ s.M.cl.length + s.M.n) → (R'.k = s.R.k ∧ R'.a = s.R.a ∧ R'.c = s.R.c ∧ R'.l = s.R.l) → o'.kd = s.o.kd → KeepR s ⟨M', R', o'⟩ :=
    fun M' R' o' h g e => ⟨h.1, h.2.1, h.2.2.1, h.2.2.2.1, h.2.2.2.2.1, h.2.2.2.2.2, g.1, g.2.1, g.2.2.1, g.2.2.2, e⟩
  unfold stepR
  split <;> (repeat' split) <;> first
    | exact f _ _ _ (load_keep _ _ _) ⟨rfl, rfl, rfl, rfl⟩ rfl
    | exact f _ _ _ (store_keep _ _ _ _) ⟨rfl, rfl, rfl, rfl⟩ rfl
    | exact f _ _ _ (access_keep _ _ _ _) ⟨rfl, rfl, rfl, rfl⟩ rfl
    | exact f _ _ _ (lock_keep _ _ _) ⟨rfl, rfl, rfl, rfl⟩ rfl
    | exact f _ _ _ (unlock_keep _ _ _) ⟨rfl, rfl, rfl, rfl⟩ rfl
    | exact f _ _ _ (add_keep _ _ _ _) ⟨rfl, rfl, rfl, rfl⟩ rfl
/-! ### an operation, done alone -/
def itR (t : Nat) (s : RS) : Nat → RS
  | 0 => s
  | i + 1 => stepR (itR t s i) t
theorem itR_keep (t : Nat) (s : RS) : ∀ i, (itR t s i).M.n = s.M.n ∧ (itR t s i).M.na = s.M.na ∧ (itR t s i).M.np = s.M.np ∧ (itR t s i).M.nl = s.M.nl ∧ (itR t s i).M.ops = s.M.ops + i ∧ (itR t s i).M.cl.length ≤ s.M.cl.length + s.M.n * i ∧ (itR t s i).R.k = s.R.k ∧ (itR t s i).R.a = s.R.a ∧ (itR t s i).R.c = s.R.c ∧ (itR t s i).R.l = s.R.l ∧ (itR t s i).o.kd = s.o.kd
  | 0 => ⟨rfl, rfl, rfl, rfl, by simp [itR], by simp [itR], rfl, rfl, rfl, rfl, rfl⟩
  | i + 1 => by
    obtain ⟨h1, h2, h3, h4, h5, h6, h7, h8, h9, h10, h11⟩ := itR_keep t s i
    have K := stepR_keep (itR t s i) t
    refine ⟨K.n.trans h1, K.na.trans h2, K.np.trans h3, K.nl.trans h4, ?_, ?_, K.k.trans h7, K.a.trans h8, K.c.trans h9, K.l.trans h10, K.kd.trans h11⟩
    · show (stepR (itR t s i) t).M.ops = _
      rw [K.ops, h5]; push_cast; omega
    · show (stepR (itR t s i) t).M.cl.length ≤ _
      have := K.cl
      rw [h1] at this
      rw [Nat.mul_succ]; omega
/-- What an operation that is done alone comes to. -/
inductive RunsR (t : Nat) : RS → Nat → RS → Prop
  | nil (s : RS) : RunsR t s 0 s
  | step {s s1 s' : RS} {n : Nat} (hf : FitsR s t) (hw : s.o.w = 0) (e : stepR s t = s1) (h : RunsR t s1 n s') : RunsR t s (n + 1) s'
theorem itR_tail (t : Nat) (s : RS) : ∀ i, itR t s (i + 1) = itR t (stepR s t) i
  | 0 => rfl
  | i + 1 => by
    show stepR (itR t s (i + 1)) t = stepR (itR t (stepR s t) i) t
    rw [itR_tail t s i]
theorem RunsR.all {t : Nat} {s s' : RS} {n : Nat} (h : RunsR t s n s') : (∀ i, i < n → FitsR (itR t s i) t ∧ (itR t s i).o.w = 0) ∧ itR t s n = s' := by
  induction h with
  | nil => exact ⟨fun i hi => absurd hi (Nat.not_lt_zero i), rfl⟩
  | step hf hw e h ih =>
    subst e
    refine ⟨fun i hi => ?_, by rw [itR_tail]; exact ih.2⟩
    cases i with
    | zero => exact ⟨hf, hw⟩
    | succ i => rw [itR_tail]; exact ih.1 i (by omega)
end Go.Proofs.Ytcmlnjkbdlakfaa
