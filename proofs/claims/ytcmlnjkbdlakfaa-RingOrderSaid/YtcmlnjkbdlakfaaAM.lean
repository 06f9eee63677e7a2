/- Memory that threads share, by its numbers: what each operation makes of it. -/
namespace Go.Proofs.Ytcmlnjkbdlakfaa
def upd {α : Type} (f : Nat → α) (a : Nat) (x : α) : Nat → α := fun i => if i = a then x else f i
theorem upd_same {α : Type} (f : Nat → α) (a : Nat) (x : α) : upd f a x a = x := by simp [upd]
theorem upd_ne {α : Type} (f : Nat → α) {a i : Nat} (x : α) (h : i ≠ a) : upd f a x i = f i := by simp [upd, h]
/-- A memory: how many threads, atoms, plain cells, locks; what each thread knows of each; the atoms, and what is known to who reads them; who read and wrote a cell when; who has a lock (-1: nobody), and what is known to who gets it; the clashes; how many operations. -/
structure AM where
  n : Nat
  na : Nat
  np : Nat
  nl : Nat
  clk : Nat → Nat → Int
  av : Nat → Int
  ak : Nat → Option (Nat → Int)
  pl : Nat → Option ((Nat → Int) × (Nat → Int))
  lo : Nat → Int
  lk : Nat → Option (Nat → Int)
  cl : List (Int × Int × Int)
  ops : Int
def jn (f : Nat → Int) : Option (Nat → Int) → Nat → Int
  | none => f
  | some g => fun u => if f u < g u then g u else f u
def AM.new (n na np nl : Nat) : AM := ⟨n, na, np, nl, fun _ _ => 0, fun _ => 0, fun _ => none, fun _ => none, fun _ => -1, fun _ => none, [], 0⟩
def AM.tick (M : AM) (t : Nat) : AM := { M with ops := M.ops + 1, clk := upd M.clk t (upd (M.clk t) t (M.clk t t + 1)) }
def AM.join (M : AM) (t : Nat) (k : Option (Nat → Int)) : AM := { M with clk := upd M.clk t (jn (M.clk t) k) }
def AM.put (M : AM) (t a : Nat) (x : Int) : AM := { M with av := upd M.av a x, ak := upd M.ak a (some (M.clk t)) }
def AM.load (M : AM) (t a : Nat) : AM := (M.tick t).join t (M.ak a)
def AM.store (M : AM) (t a : Nat) (x : Int) : AM := (M.tick t).put t a x
def AM.swap (M : AM) (t a : Nat) (old x : Int) : AM := if M.av a = old then (M.load t a).put t a x else M.load t a
def AM.add (M : AM) (t a : Nat) (x : Int) : AM := (M.load t a).put t a x
/-- When a cell was read and written, by each. -/
def AM.rw (M : AM) (p : Nat) : (Nat → Int) × (Nat → Int) := (M.pl p).getD (fun _ => 0, fun _ => 0)
def clashB (r w k : Nat → Int) (t : Nat) (wr : Bool) (u : Nat) : Bool := decide (u ≠ t) && (decide (k u < w u) || wr && decide (k u < r u))
def clashes (n p t : Nat) (r w k : Nat → Int) (wr : Bool) : List (Int × Int × Int) := ((List.range n).filter (clashB r w k t wr)).map fun u : Nat => ((p : Int), (u : Int), (t : Int))
def AM.access (M : AM) (t p : Nat) (wr : Bool) : AM :=
  { M.tick t with
    cl := M.cl ++ clashes M.n p t (M.rw p).1 (M.rw p).2 ((M.tick t).clk t) wr
    pl := upd M.pl p (some (if wr then ((M.rw p).1, upd (M.rw p).2 t ((M.tick t).clk t t)) else (upd (M.rw p).1 t ((M.tick t).clk t t), (M.rw p).2))) }
def AM.lock (M : AM) (t l : Nat) : AM := if M.lo l = -1 then { (M.tick t).join t (M.lk l) with lo := upd M.lo l t } else M.tick t
def AM.unlock (M : AM) (t l : Nat) : AM := { M.tick t with lo := upd M.lo l (-1), lk := upd M.lk l (some ((M.tick t).clk t)) }
/-- Nobody knows of more operations than there were. -/
structure AM.WF (M : AM) : Prop where
  ops : 0 ≤ M.ops
  clk : ∀ t u, 0 ≤ M.clk t u ∧ M.clk t u ≤ M.ops
  ak : ∀ a f, M.ak a = some f → ∀ u, 0 ≤ f u ∧ f u ≤ M.ops
  lk : ∀ a f, M.lk a = some f → ∀ u, 0 ≤ f u ∧ f u ≤ M.ops
theorem wf_new (n na np nl : Nat) : (AM.new n na np nl).WF := ⟨Int.le_refl _, fun _ _ => ⟨Int.le_refl _, Int.le_refl _⟩, fun _ _ h => (by simp [AM.new] at h), fun _ _ h => (by simp [AM.new] at h)⟩
theorem wf_tick {M : AM} (h : M.WF) (t : Nat) : (M.tick t).WF := by
  refine ⟨?_, fun a u => ?_, fun a f hf u => ?_, fun a f hf u => ?_⟩
  · have := h.ops; simp only [AM.tick]; omega
  · have := h.clk a u; have := h.clk t t
    simp only [AM.tick, upd]
    split
    · by_cases hu : u = t
      · simp only [upd, hu, if_true]; omega
      · rename_i e; subst e; simp only [upd, hu, if_false]; omega
    · omega
  · have := h.ak a f hf u; simp only [AM.tick]; omega
  · have := h.lk a f hf u; simp only [AM.tick]; omega
theorem jn_le {f : Nat → Int} {k : Option (Nat → Int)} {m : Int} (hf : ∀ u, 0 ≤ f u ∧ f u ≤ m) (hk : ∀ g, k = some g → ∀ u, 0 ≤ g u ∧ g u ≤ m) (u : Nat) : 0 ≤ jn f k u ∧ jn f k u ≤ m := by
  cases k with
  | none => exact hf u
  | some g =>
    have := hf u; have := hk g rfl u
    simp only [jn]; split <;> omega
theorem wf_join {M : AM} (h : M.WF) (t : Nat) {k : Option (Nat → Int)} (hk : ∀ g, k = some g → ∀ u, 0 ≤ g u ∧ g u ≤ M.ops) : (M.join t k).WF := by
  refine ⟨h.ops, fun a u => ?_, h.ak, h.lk⟩
  simp only [AM.join, upd]
  split
  · exact jn_le (h.clk t) hk u
  · exact h.clk a u
theorem wf_put {M : AM} (h : M.WF) (t a : Nat) (x : Int) : (M.put t a x).WF := by
  refine ⟨h.ops, h.clk, fun b f hf u => ?_, h.lk⟩
  simp only [AM.put, upd] at hf
  split at hf
  · simp only [Option.some.injEq] at hf; subst hf; exact h.clk t u
  · exact h.ak b f hf u
theorem wf_load {M : AM} (h : M.WF) (t a : Nat) : (M.load t a).WF := wf_join (wf_tick h t) t (fun g hg u => (wf_tick h t).ak a g hg u)
theorem wf_store {M : AM} (h : M.WF) (t a : Nat) (x : Int) : (M.store t a x).WF := wf_put (wf_tick h t) t a x
theorem wf_add {M : AM} (h : M.WF) (t a : Nat) (x : Int) : (M.add t a x).WF := wf_put (wf_load h t a) t a x
theorem wf_swap {M : AM} (h : M.WF) (t a : Nat) (o x : Int) : (M.swap t a o x).WF := by
  unfold AM.swap; split
  · exact wf_put (wf_load h t a) t a x
  · exact wf_load h t a
theorem wf_access {M : AM} (h : M.WF) (t p : Nat) (w : Bool) : (M.access t p w).WF := ⟨(wf_tick h t).ops, (wf_tick h t).clk, (wf_tick h t).ak, (wf_tick h t).lk⟩
theorem wf_lock {M : AM} (h : M.WF) (t l : Nat) : (M.lock t l).WF := by
  unfold AM.lock; split
  · have := wf_join (wf_tick h t) t (k := M.lk l) (fun g hg u => (wf_tick h t).lk l g hg u)
    exact ⟨this.ops, this.clk, this.ak, this.lk⟩
  · exact wf_tick h t
theorem wf_unlock {M : AM} (h : M.WF) (t l : Nat) : (M.unlock t l).WF := by
  have w := wf_tick h t
  refine ⟨w.ops, w.clk, w.ak, fun b f hf u => ?_⟩
  simp only [AM.unlock, upd] at hf
  split at hf
  · simp only [Option.some.injEq] at hf; subst hf; exact w.clk t u
  · exact w.lk b f hf u
end Go.Proofs.Ytcmlnjkbdlakfaa
