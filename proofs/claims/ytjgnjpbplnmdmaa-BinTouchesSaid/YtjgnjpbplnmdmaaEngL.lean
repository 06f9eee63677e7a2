/- A great argument's cells, leaf by leaf. -/
import Derived.Test.YtjgnjpbplnmdmaaEng20
set_option linter.unusedSimpArgs false
set_option linter.unusedVariables false
namespace Go.Proofs.Ytjgnjpbplnmdmaa
open Go
mutual
def leaves : Sh → List Sh
  | .agg l => leavesL l
  | q => [q]
def leavesL : List Sh → List Sh
  | [] => []
  | q :: l => leaves q ++ leavesL l
end
def Is2 : List Sh → List LV → Prop
  | [], cs => cs = []
  | q :: l, cs => ∃ c r, cs = c :: r ∧ Is q [c] ∧ Is2 l r
theorem Is2.app : ∀ {l m : List Sh} {a b : List LV}, Is2 l a → Is2 m b → Is2 (l ++ m) (a ++ b)
  | [], m, a, b, h1, h2 => by
    have h1 : a = [] := h1
    subst h1; exact h2
  | q :: l, m, a, b, ⟨c, r, e, h, h1⟩, h2 => by
    subst e
    exact ⟨c, r ++ b, rfl, h, h1.app h2⟩
theorem is2_one {q : Sh} {cs : List LV} (hs : leaves q = [q]) (h : Is q cs) (h1 : ∃ c, cs = [c]) : Is2 (leaves q) cs := by
  obtain ⟨c, rfl⟩ := h1
  rw [hs]; exact ⟨c, [], rfl, h, rfl⟩
mutual
theorem is_leaves : ∀ (q : Sh) {cs : List LV}, Is q cs → Is2 (leaves q) cs
  | .i k, cs, h => is2_one rfl h (by obtain ⟨n, e, _⟩ := h; exact ⟨_, e⟩)
  | .b, cs, h => is2_one rfl h (by obtain ⟨b, e⟩ := h; exact ⟨_, e⟩)
  | .s, cs, h => is2_one rfl h (by obtain ⟨q, e, _⟩ := h; exact ⟨_, e⟩)
  | .agg l, cs, h => isL_leaves l h
  | .sl e, cs, h => is2_one rfl h (by
    rcases h with h | ⟨L, h, _⟩
    · exact ⟨_, h⟩
    · exact ⟨_, h⟩)
theorem isL_leaves : ∀ (l : List Sh) {cs : List LV}, IsL l cs → Is2 (leavesL l) cs
  | [], cs, h => h
  | q :: l, cs, ⟨a, b, e, h1, h2⟩ => by
    subst e
    exact (is_leaves q h1).app (isL_leaves l h2)
end
def numOf : LV → Int
  | .v (.int _ n) => n
  | _ => 0
def truOf : LV → Bool
  | .v (.bool b) => b
  | _ => false
def nrmL : Sh → LV → LV
  | .i k, c => .v (.int k (numOf c))
  | .b, c => .v (.bool (truOf c))
  | _, c => c
theorem nrm_eq {q : Sh} {c : LV} (h : Is q [c]) : nrmL q c = c := by
  cases q with
  | i k => obtain ⟨n, e, _⟩ := h; cases e; rfl
  | b => obtain ⟨b, e⟩ := h; cases e; rfl
  | _ => rfl
def cellsL (cs : List LV) : Nat → List Sh → List LV
  | _, [] => []
  | i, q :: l => nrmL q (getT cs i) :: cellsL cs (i + 1) l
theorem getT_app : ∀ (p : List LV) (c : LV) (r : List LV), getT (p ++ c :: r) p.length = c
  | [], c, r => rfl
  | x :: p, c, r => getT_app p c r
theorem cells_eq : ∀ {l : List Sh} {r : List LV} (p : List LV), Is2 l r → cellsL (p ++ r) p.length l = r
  | [], r, p, h => h.symm
  | q :: l, r, p, ⟨c, r', e, h, h2⟩ => by
    subst e
    have ih := cells_eq (p ++ [c]) h2
    rw [List.append_assoc, List.length_append] at ih
    show nrmL q (getT (p ++ c :: r') p.length) :: cellsL (p ++ c :: r') (p.length + 1) l = _
    rw [getT_app, nrm_eq h]
    exact congrArg (c :: ·) ih
/-- The cells of an argument, one by one. -/
theorem cells_of {l : List Sh} {cs : List LV} (h : IsL l cs) : cs = cellsL cs 0 (leavesL l) := (cells_eq [] (isL_leaves l h)).symm
theorem is2_at : ∀ {l : List Sh} {r : List LV} (p : List LV), Is2 l r → ∀ (j : Nat) (q : Sh), l[j]? = some q → Is q [getT (p ++ r) (p.length + j)]
  | [], r, p, h, j, q, e => by simp at e
  | s' :: l, r, p, ⟨c, r', e, h, h2⟩, 0, q, e1 => by
    subst e
    simp at e1
    subst e1
    rw [Nat.add_zero, getT_app]; exact h
  | s' :: l, r, p, ⟨c, r', e, h, h2⟩, j + 1, q, e1 => by
    subst e
    have ih := is2_at (p ++ [c]) h2 j q (by simpa using e1)
    rw [List.append_assoc, List.length_append] at ih
    rw [show p.length + (j + 1) = p.length + [c].length + j by simp; omega]
    exact ih
theorem leaf_at {l : List Sh} {cs : List LV} (h : IsL l cs) (j : Nat) (q : Sh) (e : (leavesL l)[j]? = some q) : Is q [getT cs j] := by
  have := is2_at [] (isL_leaves l h) j q e
  simpa using this
end Go.Proofs.Ytjgnjpbplnmdmaa
