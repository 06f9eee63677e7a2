/- However the steps of an owner and of thieves come, each number that was pushed is got, once. The plain law: what holds at every time. -/
import Derived.Test.YtjoldlaoncdcgaaDA
set_option linter.unusedSimpArgs false
set_option linter.unusedVariables false
namespace Go.Proofs.Ytjoldlaoncdcgaa
/-- A thread. -/
structure TH where
  o : Option AO
  next : Nat
  steps : Nat
  over : Bool
/-- A run. -/
structure GM where
  M : AM
  n : Nat
  th : Nat → TH
  pu : List Int
  st : List Int
  go : List Int
def isPush : PC → Bool
  | .pushBottom | .pushTop | .pushSlot | .pushDone => true
  | _ => false
def depth : PC → Nat
  | .pushBottom | .popBottom | .stealTop => 0
  | .pushTop | .popStore | .stealBottom => 1
  | .pushSlot | .popTop | .stealSlot => 2
  | .pushDone | .popNone | .popSlot | .stealSwap => 3
  | .popSwap => 4
  | .popWon | .popLost => 5
/-- What the owner's operation knows. -/
def ownOk (c : Nat) (av : Nat → Int) (T : Nat) (X : List Int) (o : AO) : Prop :=
  match o.pc with
  | .pushBottom => av 1 = (T : Int) + X.length
  | .pushTop => av 1 = (T : Int) + X.length ∧ o.b = (T : Int) + X.length
  | .pushSlot => av 1 = (T : Int) + X.length ∧ o.b = (T : Int) + X.length ∧ X.length < c
  | .pushDone => av 1 = (T : Int) + X.length ∧ o.b = (T : Int) + X.length ∧ X.length < c ∧ av (2 + (T + X.length) % c) = o.v
  | .popBottom => av 1 = (T : Int) + X.length
  | .popStore => av 1 = (T : Int) + X.length ∧ o.b = (T : Int) + X.length - 1
  | .popTop => av 1 = (T : Int) + X.length - 1 ∧ o.b = (T : Int) + X.length - 1
  | .popNone => av 1 = (T : Int) - 1 ∧ o.t = T ∧ X = []
  | .popSlot => av 1 = (T : Int) + X.length - 1 ∧ o.b = (T : Int) + X.length - 1 ∧ 0 ≤ o.t ∧ o.t ≤ o.b ∧ o.t ≤ T ∧ (o.t < o.b → X ≠ [])
  | .popSwap => av 1 = (T : Int) + X.length - 1 ∧ o.t = (T : Int) + X.length - 1 ∧ (X = [] ∨ X = [o.v])
  | .popWon => av 1 = (T : Int) - 1 ∧ o.t = (T : Int) - 1 ∧ X = []
  | .popLost => av 1 = (T : Int) - 1 ∧ o.t = (T : Int) - 1 ∧ X = []
  | _ => False
/-- The owner is about to take without a swap. -/
def pend (o : Option AO) : Prop := ∃ x, o = some x ∧ x.pc = .popSlot ∧ x.t < x.b
def vld (o : Option AO) (X : List Int) : Prop := X ≠ [] ∧ (pend o → 2 ≤ X.length)
/-- What a thief's operation knows. -/
def thOk (T : Nat) (X : List Int) (w : Option AO) (o : AO) : Prop :=
  match o.pc with
  | .stealTop => True
  | .stealBottom => 0 ≤ o.t ∧ o.t ≤ T
  | .stealSlot => 0 ≤ o.t ∧ o.t ≤ T ∧ (o.t = T → vld w X)
  | .stealSwap => 0 ≤ o.t ∧ o.t ≤ T ∧ (o.t = T → vld w X ∧ X[0]? = some o.v)
  | _ => False
/-- What was swapped for, and is not told yet. -/
def infl : Option AO → List Int
  | some o => if o.pc = .popWon then [o.v] else []
  | none => []
/-- Which numbers were begun with. -/
def bd (x : TH) : Nat := match x.o with
  | some o => if isPush o.pc then x.next - 1 else x.next
  | none => x.next
structure OpW (c : Nat) (x : TH) (o : AO) : Prop where
  a : o.a = 0
  c : o.c = c
  w : o.w = 0
  steps : x.steps = depth o.pc
  b : -1 ≤ o.b ∧ o.b ≤ 100
  t : -1 ≤ o.t ∧ o.t ≤ 100
  ov : x.over = false
  nx : 0 < x.next
  tk : o.tk = !isPush o.pc
structure PI (push : List Bool) (c : Nat) (G : GM) (T : Nat) (X : List Int) : Prop where
  top : G.M.av 0 = T
  len : X.length ≤ c
  c0 : 0 < c
  at' : ∀ i x, X[i]? = some x → G.M.av (2 + (T + i) % c) = x
  own : ∀ o, (G.th 0).o = some o → ownOk c G.M.av T X o ∧ OpW c (G.th 0) o ∧ push.getD ((G.th 0).next - 1) false = isPush o.pc ∧ (isPush o.pc = true → o.v = 99 + (G.th 0).next)
  idle : (G.th 0).o = none → G.M.av 1 = (T : Int) + X.length
  thi : ∀ t, 0 < t → t < G.n → ∀ o, (G.th t).o = some o → thOk T X (G.th 0).o o ∧ OpW c (G.th t) o
  perm : (G.go ++ (infl (G.th 0).o ++ X)).Perm G.pu
  srt : (G.st ++ X).Pairwise (· < ·)
  lt1 : ∀ y ∈ G.st ++ X, y < 100 + (bd (G.th 0) : Int)
  lt2 : ∀ y ∈ G.pu, y < 100 + (bd (G.th 0) : Int)
  nd : G.pu.Nodup
  r : T + X.length ≤ bd (G.th 0)
  nx : (G.th 0).next ≤ 40
theorem ownOk_av1 {c : Nat} {av : Nat → Int} {T : Nat} {X : List Int} {o : AO} (h : ownOk c av T X o) : av 1 = (T : Int) + X.length ∨ av 1 = (T : Int) + X.length - 1 := by
  obtain ⟨a, c', pc, w, tk, b, t, v⟩ := o
  cases pc <;> simp only [ownOk] at h
  all_goals first
    | exact .inl h
    | exact .inl h.1
    | exact .inr h.1
    | exact h.elim
    | (obtain ⟨h1, h2, rfl⟩ := h; right; simpa using h1)
theorem PI.av1 {push : List Bool} {c : Nat} {G : GM} {T : Nat} {X : List Int} (H : PI push c G T X) : G.M.av 1 = (T : Int) + X.length ∨ G.M.av 1 = (T : Int) + X.length - 1 := by
  cases ho : (G.th 0).o with
  | none => exact .inl (H.idle ho)
  | some o => exact ownOk_av1 (H.own o ho).1
theorem PI.bd40 {push : List Bool} {c : Nat} {G : GM} {T : Nat} {X : List Int} (H : PI push c G T X) : bd (G.th 0) ≤ 40 := by
  have := H.nx
  unfold bd; split
  · split <;> omega
  · exact this
theorem PI.fits {push : List Bool} {c : Nat} {G : GM} {T : Nat} {X : List Int} (H : PI push c G T X) {t : Nat} (ht : t < G.n) {o : AO} (ho : (G.th t).o = some o) : Fits o G.M := by
  have h1 := H.top
  have h2 := H.av1
  have h3 := H.r
  have h4 := H.bd40
  by_cases h0 : t = 0
  · subst h0
    obtain ⟨q1, q2, -⟩ := H.own o ho
    have qa := q2.a
    have qb := q2.b
    have qt := q2.t
    obtain ⟨a, c', pc, w, tk, b, t, v⟩ := o
    simp only at qa qb qt
    subst qa
    refine ⟨by simp only [small]; omega, by simp only [small]; omega, by simp only [small]; omega, by simp only [small, Nat.zero_add]; omega, fun h => ?_, fun h => ?_⟩
    · rcases h with h | h <;> simp only at h <;> subst h <;> simp only [ownOk] at q1 ⊢ <;> omega
    · simp only at h; subst h; exact q1.elim
  · obtain ⟨q1, q2⟩ := H.thi t (by omega) ht o ho
    have qa := q2.a
    have qb := q2.b
    have qt := q2.t
    obtain ⟨a, c', pc, w, tk, b, t, v⟩ := o
    simp only at qa qb qt
    subst qa
    refine ⟨by simp only [small]; omega, by simp only [small]; omega, by simp only [small]; omega, by simp only [small, Nat.zero_add]; omega, fun h => ?_, fun h => ?_⟩
    · rcases h with h | h <;> simp only at h <;> subst h <;> exact q1.elim
    · simp only at h; subst h; simp only [thOk] at q1 ⊢; omega
end Go.Proofs.Ytjoldlaoncdcgaa
