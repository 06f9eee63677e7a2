/- A deque's operation by its numbers: what each step makes of it and of the memory. -/
import Derived.Test.YtjoldlaoncdcgaaAM
namespace Go.Proofs.Ytjoldlaoncdcgaa
/-- Which step comes next. -/
inductive PC where
  | pushBottom | pushTop | pushSlot | pushDone
  | popBottom | popStore | popTop | popNone | popSlot | popSwap | popWon | popLost
  | stealTop | stealBottom | stealSlot | stealSwap
  deriving DecidableEq
/-- An operation: where its deque lies, how many slots it has, which step comes next, why it is done (0: it is not), does it take, and its numbers. -/
structure AO where
  a : Nat
  c : Nat
  pc : PC
  w : Int
  tk : Bool
  b : Int
  t : Int
  v : Int
def AO.push (a c : Nat) (v : Int) : AO := ⟨a, c, .pushBottom, 0, false, 0, 0, v⟩
def AO.pop (a c : Nat) : AO := ⟨a, c, .popBottom, 0, true, 0, 0, 0⟩
def AO.steal (a c : Nat) : AO := ⟨a, c, .stealTop, 0, true, 0, 0, 0⟩
def slotN (a c : Nat) (n : Int) : Nat := a + 2 + n.toNat % c
/-- A step. -/
def stepO (o : AO) (M : AM) (tt : Nat) : AM × AO :=
  match o.pc with
  | .pushBottom => (M.load tt (o.a + 1), { o with pc := .pushTop, b := M.av (o.a + 1) })
  | .pushTop => (M.load tt o.a, if (o.c : Int) ≤ o.b - M.av o.a then { o with w := 4, t := M.av o.a } else { o with pc := .pushSlot, t := M.av o.a })
  | .pushSlot => (M.store tt (slotN o.a o.c o.b) o.v, { o with pc := .pushDone })
  | .pushDone => (M.store tt (o.a + 1) (o.b + 1), { o with w := 1 })
  | .popBottom => (M.load tt (o.a + 1), { o with pc := .popStore, b := M.av (o.a + 1) - 1 })
  | .popStore => (M.store tt (o.a + 1) o.b, { o with pc := .popTop })
  | .popTop => (M.load tt o.a, if o.b < M.av o.a then { o with pc := .popNone, t := M.av o.a } else { o with pc := .popSlot, t := M.av o.a })
  | .popNone => (M.store tt (o.a + 1) o.t, { o with w := 2 })
  | .popSlot => (M.load tt (slotN o.a o.c o.b), if o.t < o.b then { o with w := 1, v := M.av (slotN o.a o.c o.b) } else { o with pc := .popSwap, v := M.av (slotN o.a o.c o.b) })
  | .popSwap => (M.swap tt o.a o.t (o.t + 1), if M.av o.a = o.t then { o with pc := .popWon } else { o with pc := .popLost })
  | .popWon => (M.store tt (o.a + 1) (o.t + 1), { o with w := 1 })
  | .popLost => (M.store tt (o.a + 1) (o.t + 1), { o with w := 3 })
  | .stealTop => (M.load tt o.a, { o with pc := .stealBottom, t := M.av o.a })
  | .stealBottom => (M.load tt (o.a + 1), if M.av (o.a + 1) ≤ o.t then { o with w := 2, b := M.av (o.a + 1) } else { o with pc := .stealSlot, b := M.av (o.a + 1) })
  | .stealSlot => (M.load tt (slotN o.a o.c o.t), { o with pc := .stealSwap, v := M.av (slotN o.a o.c o.t) })
  | .stealSwap => (M.swap tt o.a o.t (o.t + 1), if M.av o.a = o.t then { o with w := 1 } else { o with w := 3 })
def small (n : Int) : Prop := -1000000000 ≤ n ∧ n ≤ 1000000000
/-- Numbers are small, and slots are told by numbers from 0 on. -/
structure Fits (o : AO) (M : AM) : Prop where
  b : small o.b
  t : small o.t
  top : small (M.av o.a)
  bot : small (M.av (o.a + 1))
  slotB : o.pc = .pushSlot ∨ o.pc = .popSlot → 0 ≤ o.b
  slotT : o.pc = .stealSlot → 0 ≤ o.t
theorem stepO_n (o : AO) (M : AM) (tt : Nat) : (stepO o M tt).1.n = M.n ∧ (stepO o M tt).1.na = M.na ∧ (stepO o M tt).1.np = M.np ∧ (stepO o M tt).1.nl = M.nl ∧ (stepO o M tt).1.ops = M.ops + 1 ∧ (stepO o M tt).1.cl = M.cl ∧ (stepO o M tt).2.a = o.a ∧ (stepO o M tt).2.c = o.c ∧ (stepO o M tt).2.tk = o.tk := by
  unfold stepO
  cases o.pc <;> simp only [AM.load, AM.store, AM.swap, AM.put, AM.join, AM.tick] <;> (try split) <;> simp
/-! ### an operation, done alone -/
def stp (tt : Nat) (s : AM × AO) : AM × AO := stepO s.2 s.1 tt
def itS (tt : Nat) (s : AM × AO) : Nat → AM × AO
  | 0 => s
  | i + 1 => stp tt (itS tt s i)
theorem itS_inv (tt : Nat) (s : AM × AO) : ∀ i, (itS tt s i).1.n = s.1.n ∧ (itS tt s i).1.na = s.1.na ∧ (itS tt s i).1.ops = s.1.ops + i ∧ (itS tt s i).2.a = s.2.a ∧ (itS tt s i).2.c = s.2.c
  | 0 => ⟨rfl, rfl, by simp [itS], rfl, rfl⟩
  | i + 1 => by
    have e := itS_inv tt s i
    have f := stepO_n (itS tt s i).2 (itS tt s i).1 tt
    refine ⟨f.1.trans e.1, f.2.1.trans e.2.1, ?_, f.2.2.2.2.2.2.1.trans e.2.2.2.1, f.2.2.2.2.2.2.2.1.trans e.2.2.2.2⟩
    have := f.2.2.2.2.1
    show (stepO (itS tt s i).2 (itS tt s i).1 tt).1.ops = _
    rw [this, e.2.2.1]; omega
end Go.Proofs.Ytjoldlaoncdcgaa
