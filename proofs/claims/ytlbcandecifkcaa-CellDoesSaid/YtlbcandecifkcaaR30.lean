/- Who holds a lock while it accesses a cell clashes with nobody who does so, too. The plain law. -/
import Derived.Test.YtlbcandecifkcaaAM
namespace Go.Proofs.Ytlbcandecifkcaa
def kn0 : Option (Nat → Int) → Nat → Int
  | none => fun _ => 0
  | some f => f
structure Lk (M : AM) : Prop where
  wf : M.WF
  n : M.n = 4
  sz : M.na = 1 ∧ M.np = 1 ∧ M.nl = 1
  cl : M.cl = []
  lo : M.lo 0 = -1
  kn : ∀ u, (M.rw 0).1 u ≤ kn0 (M.lk 0) u ∧ (M.rw 0).2 u ≤ kn0 (M.lk 0) u
theorem lk_new : Lk (AM.new 4 1 1 1) := ⟨wf_new _ _ _ _, rfl, ⟨rfl, rfl, rfl⟩, rfl, rfl, fun _ => ⟨Int.le_refl _, Int.le_refl _⟩⟩
theorem clashes_none {n p t : Nat} {r w k : Nat → Int} {wr : Bool} (h : ∀ u, r u ≤ k u ∧ w u ≤ k u) : clashes n p t r w k wr = [] := by
  unfold clashes
  rw [List.map_eq_nil_iff, List.filter_eq_nil_iff]
  intro u _
  have := h u
  have h1 : ¬ k u < w u := by omega
  have h2 : ¬ k u < r u := by omega
  simp [clashB, h1, h2]
/-- One round: a lock is got, another one does not get it, the cell is accessed, the lock is free. -/
def lkNext (M : AM) (t s : Nat) (w : Bool) : AM := (((M.lock t 0).lock s 0).access t 0 w).unlock t 0
theorem lk_mid (M : AM) (h : Lk M) (t s : Nat) :
    (M.lock t 0).lo 0 = t ∧ ((M.lock t 0).lock s 0) = (M.lock t 0).tick s ∧ (∀ w, (((M.lock t 0).tick s).access t 0 w).lo 0 = t) := by
  have h1 : (M.lock t 0).lo 0 = t := by simp [AM.lock, h.lo, upd]
  refine ⟨h1, ?_, fun w => ?_⟩
  · rw [AM.lock, h1, if_neg (by omega)]
  · simp only [AM.access, AM.tick]; exact h1
theorem lk_next (M : AM) (h : Lk M) (t s : Nat) (hst : s ≠ t) (w : Bool) : Lk (lkNext M t s w) := by
  obtain ⟨h1, h2, h3⟩ := lk_mid M h t s
  unfold lkNext
  rw [h2]
  have hw1 := wf_lock h.wf t 0
  have hw2 := wf_tick hw1 s
  have hw3 := wf_access hw2 t 0 w
  have hw4 := wf_unlock hw3 t 0
  have e1 : (M.lock t 0) = { (M.tick t).join t (M.lk 0) with lo := upd M.lo 0 t } := by unfold AM.lock; rw [if_pos h.lo]
  have hrw : ((M.lock t 0).tick s).rw 0 = M.rw 0 := by rw [e1]; rfl
  have hck : ∀ u, kn0 (M.lk 0) u ≤ (((M.lock t 0).tick s).tick t).clk t u := by
    intro u
    have hc : ((M.lock t 0).tick s).clk t u = jn (upd (M.clk t) t (M.clk t t + 1)) (M.lk 0) u := by
      rw [e1]
      simp [AM.tick, AM.join, upd, Ne.symm hst]
    have hj : kn0 (M.lk 0) u ≤ jn (upd (M.clk t) t (M.clk t t + 1)) (M.lk 0) u := by
      cases hk : M.lk 0 with
      | none =>
        simp only [jn, kn0]
        have := h.wf.clk t u
        have := h.wf.clk t t
        by_cases hu : u = t
        · subst hu; rw [upd_same]; omega
        · rw [upd_ne _ _ hu]; omega
      | some f => simp only [jn, kn0]; split <;> omega
    have ht : ((M.lock t 0).tick s).clk t u ≤ (((M.lock t 0).tick s).tick t).clk t u := by
      generalize (M.lock t 0).tick s = N
      simp only [AM.tick, upd_same]
      by_cases hu : u = t
      · subst hu; rw [upd_same]; omega
      · rw [upd_ne _ _ hu]; omega
    rw [hc] at ht
    omega
  generalize hN : (M.lock t 0).tick s = N at *
  have hno : clashes N.n 0 t (N.rw 0).1 (N.rw 0).2 ((N.tick t).clk t) w = [] := by
    rw [hrw]
    exact clashes_none fun u => by have := h.kn u; have := hck u; omega
  have hlk : ((N.access t 0 w).unlock t 0).lk 0 = some (((N.access t 0 w).tick t).clk t) := by simp [AM.unlock, upd]
  have hrr : ((N.access t 0 w).unlock t 0).rw 0 = if w then ((N.rw 0).1, upd (N.rw 0).2 t ((N.tick t).clk t t)) else (upd (N.rw 0).1 t ((N.tick t).clk t t), (N.rw 0).2) := by
    simp [AM.unlock, AM.access, AM.rw, AM.tick, upd]
  have hc3 : ∀ u, (N.tick t).clk t u ≤ ((N.access t 0 w).tick t).clk t u := by
    intro u
    have : (N.access t 0 w).clk = (N.tick t).clk := rfl
    simp only [AM.tick, upd_same, this]
    by_cases hu : u = t
    · subst hu; simp only [upd_same]; omega
    · simp only [upd_ne _ _ hu]; omega
  have hsz : N.n = 4 ∧ (N.na = 1 ∧ N.np = 1 ∧ N.nl = 1) ∧ N.cl = [] := by rw [← hN, e1]; exact ⟨h.n, h.sz, h.cl⟩
  refine ⟨hw4, hsz.1, hsz.2.1, ?_, ?_, fun u => ?_⟩
  · show N.cl ++ _ = _
    rw [hno, List.append_nil]; exact hsz.2.2
  · simp [AM.unlock, upd]
  · rw [hlk, hrr]
    have h5 := h.kn u
    have h6 := hck u
    have h7 := hc3 u
    have h8 := hc3 t
    rw [hrw]
    show _ ≤ ((N.access t 0 w).tick t).clk t u ∧ _ ≤ ((N.access t 0 w).tick t).clk t u
    generalize ((N.access t 0 w).tick t).clk t = K at *
    generalize (N.tick t).clk t = K' at *
    generalize M.rw 0 = rr at *
    generalize kn0 (M.lk 0) = k0 at *
    clear hck hc3 hno hlk hrr hrw hw1 hw2 hw3 hw4 h1 h2 h3 e1 hN h
    cases w
    · simp only [Bool.false_eq_true, if_false]
      by_cases hu : u = t
      · subst hu; rw [upd_same]; omega
      · rw [upd_ne _ _ hu]; omega
    · simp only [if_true]
      by_cases hu : u = t
      · subst hu; rw [upd_same]; omega
      · rw [upd_ne _ _ hu]; omega
end Go.Proofs.Ytlbcandecifkcaa
