/- All that was done, as it lies in a heap. -/
import Derived.Test.YtlbcandecifkcaaMN
import Derived.Test.YtlbcandecifkcaaQ30
set_option linter.unusedSimpArgs false
set_option linter.unusedVariables false
set_option maxRecDepth 100000
set_option maxHeartbeats 16000000
namespace Go.Proofs.Ytlbcandecifkcaa
open Go
/-- A heap that grew, and is else as it was. -/
structure Ext (h h' : List Row) : Prop where
  le : h.length ≤ h'.length
  same : ∀ k, k < h.length → h'[k]? = h[k]?
theorem Ext.refl (h : List Row) : Ext h h := ⟨Nat.le_refl _, fun _ _ => rfl⟩
theorem Ext.trans {a b c : List Row} (x : Ext a b) (y : Ext b c) : Ext a c :=
  ⟨Nat.le_trans x.le y.le, fun k hk => (y.same k (Nat.lt_of_lt_of_le hk x.le)).trans (x.same k hk)⟩
theorem Ext.app (h t : List Row) : Ext h (h ++ t) := ⟨by simp, fun k hk => List.getElem?_append_left hk⟩
theorem Ext.put {h h' : List Row} (x : Ext h h') {k : Nat} (hk : h.length ≤ k) (r : Row) : Ext h (h'.set k r) :=
  ⟨by simp [x.le], fun j hj => by rw [List.getElem?_set_ne (by omega)]; exact x.same j hj⟩
theorem Ext.row {h h' : List Row} (x : Ext h h') {k v : Nat} {cs : List LV} (e : rowOf h k v = some cs) : rowOf h' k v = some cs := by
  refine rowOf_at ?_
  rw [x.same k (rowOf_lt e)]; exact at_rowOf e
theorem Frm.ext {o o' : Nat → Prop} {h h' : List Row} (F : Frm o o' h h') {k v : Nat} {cs : List LV} (hk : ¬ o k) (e : rowOf h k v = some cs) : rowOf h' k v = some cs := by
  refine rowOf_at ?_
  rw [F.same k (rowOf_lt e) hk]; exact at_rowOf e
theorem Ext.mem {h h' : List Row} (x : Ext h h') {M : AM} {row : Tg → Nat} (H : MemAt h M row) : MemAt h' M row := H.keep fun k hk => x.same k (H.own hk)
/-! ### lists of clashes -/
def C3At (h : List Row) (P : Nat → Prop) (l : List (Int × Int × Int)) (S : LV) : Prop := (l = [] ∧ (S = .nils ∨ S = .im [] 0 true)) ∨ (l ≠ [] ∧ ∃ k v, P k ∧ S = .sl k v 0 l.length 3 l.length ∧ rowOf h k v = some (clCells l))
/-! ### what was done -/
def bools (l : List Bool) : List LV := l.map fun b => .b b
theorem bools_length (l : List Bool) : (bools l).length = l.length := by simp [bools]
theorem bools_get {l : List Bool} {i : Nat} (h : i < l.length) : (bools l)[i]? = some (.b (l.getD i false)) := by simp [bools, h]
def dCells (b : Nat → Nat) (L : List Dn) : Nat → List LV
  | 0 => []
  | i + 1 => dCells b L i ++ [.i (dn L i).k, .i (dn L i).t, .i (dn L i).a, .i (dn L i).o, .i (dn L i).n, .sl (b i) 0 0 i 1 i, .b (dn L i).w, .i (dn L i).v, .b (dn L i).is]
theorem dCells_len (b : Nat → Nat) (L : List Dn) : ∀ n, (dCells b L n).length = n * 9
  | 0 => rfl
  | n + 1 => by simp [dCells, dCells_len b L n]; omega
theorem dCells_drop (b : Nat → Nat) (L : List Dn) : ∀ (n i : Nat), i < n → ∃ rest, (dCells b L n).drop (i * 9) = .i (dn L i).k :: .i (dn L i).t :: .i (dn L i).a :: .i (dn L i).o :: .i (dn L i).n :: .sl (b i) 0 0 i 1 i :: .b (dn L i).w :: .i (dn L i).v :: .b (dn L i).is :: rest
  | n + 1, i, h => by
    have hl := dCells_len b L n
    by_cases hi : i = n
    · subst hi
      refine ⟨[], ?_⟩
      simp only [dCells]
      rw [← hl, List.drop_left]
    · obtain ⟨rest, hr⟩ := dCells_drop b L n i (by omega)
      refine ⟨rest ++ [.i (dn L n).k, .i (dn L n).t, .i (dn L n).a, .i (dn L n).o, .i (dn L n).n, .sl (b n) 0 0 n 1 n, .b (dn L n).w, .i (dn L n).v, .b (dn L n).is], ?_⟩
      simp only [dCells]
      rw [List.drop_append_of_le_length (by omega), hr]
      rfl
theorem dCells_get {b : Nat → Nat} {L : List Dn} {n i : Nat} (h : i < n) : (dCells b L n)[i * 9]? = some (.i (dn L i).k) ∧ (dCells b L n)[i * 9 + 1]? = some (.i (dn L i).t) ∧ (dCells b L n)[i * 9 + 2]? = some (.i (dn L i).a) ∧
    (dCells b L n)[i * 9 + 5]? = some (.sl (b i) 0 0 i 1 i) ∧ (dCells b L n)[i * 9 + 7]? = some (.i (dn L i).v) ∧
    ((dCells b L n).drop (i * 9)).take 9 = [.i (dn L i).k, .i (dn L i).t, .i (dn L i).a, .i (dn L i).o, .i (dn L i).n, .sl (b i) 0 0 i 1 i, .b (dn L i).w, .i (dn L i).v, .b (dn L i).is] := by
  obtain ⟨rest, hr⟩ := dCells_drop b L n i h
  have key : ∀ j, (dCells b L n)[i * 9 + j]? = ((dCells b L n).drop (i * 9))[j]? := fun j => by rw [List.getElem?_drop]
  refine ⟨?_, ?_, ?_, ?_, ?_, ?_⟩
  · have := key 0; rw [Nat.add_zero] at this; rw [this, hr]; rfl
  · rw [key, hr]; rfl
  · rw [key, hr]; rfl
  · rw [key, hr]; rfl
  · rw [key, hr]; rfl
  · show List.take 9 _ = _
    rw [hr]; rfl
theorem dCells_congr {b b' : Nat → Nat} {L L' : List Dn} : ∀ {n}, (∀ i, i < n → b i = b' i ∧ dn L i = dn L' i) → dCells b L n = dCells b' L' n
  | 0, _ => rfl
  | n + 1, h => by
    simp only [dCells]
    rw [dCells_congr fun i hi => h i (by omega), (h n (by omega)).1, (h n (by omega)).2]
theorem dCells_atom (b : Nat → Nat) (L : List Dn) : ∀ n, (dCells b L n).all atomB = true
  | 0 => rfl
  | n + 1 => by simp [dCells, dCells_atom b L n, atomB, Value.oneCell']
theorem dCells_open (b : Nat → Nat) (L : List Dn) : ∀ n, 0 < n → closedL (dCells b L n) = false := by
  intro n hn
  obtain ⟨m, rfl⟩ : ∃ m, n = m + 1 := ⟨n - 1, by omega⟩
  have key : ∀ l m : List LV, closedL m = false → closedL (l ++ m) = false := by
    intro l m hm
    induction l with
    | nil => exact hm
    | cons x l ih => simp [closedL, ih]
  exact key _ _ (by simp [closedL, closed])
/-- The list of what was done. -/
inductive LAt (h : List Row) (P : Nat → Prop) (L : List Dn) (S : LV) : Prop where
  | nil (hl : L = []) (hs : S = .nils)
  | sl (k v : Nat) (b : Nat → Nat) (hl : L ≠ []) (hs : S = .sl k v 0 L.length 9 L.length) (hr : rowOf h k v = some (dCells b L L.length)) (hb : ∀ i, i < L.length → rowOf h (b i) 0 = some (bools (dn L i).bf) ∧ (dn L i).bf.length = i) (hp : P k) (hq : ∀ i, i < L.length → P (b i))
theorem LAt.len {h : List Row} {P : Nat → Prop} {L : List Dn} {S : LV} (H : LAt h P L S) : lenE S = some (.i L.length) := by
  cases H with
  | nil hl hs => subst hl; subst hs; rfl
  | sl k v b hl hs hr hb hp hq => rw [hs]; rfl
theorem LAt.atm {h : List Row} {P : Nat → Prop} {L : List Dn} {S : LV} (H : LAt h P L S) : atomB S = true ∧ S.cells = [S] := by
  cases H with
  | nil hl hs => subst hs; exact ⟨rfl, rfl⟩
  | sl k v b hl hs hr hb hp hq => rw [hs]; exact ⟨rfl, rfl⟩
theorem C3At.len {h : List Row} {P : Nat → Prop} {l : List (Int × Int × Int)} {S : LV} (H : C3At h P l S) : lenE S = some (.i l.length) := by
  rcases H with ⟨rfl, rfl | rfl⟩ | ⟨_, k, v, _, rfl, _⟩ <;> rfl
theorem C3At.atm {h : List Row} {P : Nat → Prop} {l : List (Int × Int × Int)} {S : LV} (H : C3At h P l S) : atomB S = true ∧ S.cells = [S] := by
  rcases H with ⟨rfl, rfl | rfl⟩ | ⟨_, k, v, _, rfl, _⟩ <;> exact ⟨rfl, rfl⟩
theorem LAt.mono {h h' : List Row} {P P' : Nat → Prop} {L : List Dn} {S : LV} (H : LAt h P L S) (hh : ∀ k v cs, P k → rowOf h k v = some cs → rowOf h' k v = some cs ∧ P' k) : LAt h' P' L S := by
  cases H with
  | nil hl hs => exact .nil hl hs
  | sl k v b hl hs hr hb hp hq => exact .sl k v b hl hs (hh _ _ _ hp hr).1 (fun i hi => ⟨(hh _ _ _ (hq i hi) (hb i hi).1).1, (hb i hi).2⟩) (hh _ _ _ hp hr).2 fun i hi => (hh _ _ _ (hq i hi) (hb i hi).1).2
theorem C3At.mono {h h' : List Row} {P P' : Nat → Prop} {l : List (Int × Int × Int)} {S : LV} (H : C3At h P l S) (hh : ∀ k v cs, P k → rowOf h k v = some cs → rowOf h' k v = some cs ∧ P' k) : C3At h' P' l S := by
  rcases H with H | ⟨h1, k, v, hp, h2, h3⟩
  · exact .inl H
  · exact .inr ⟨h1, k, v, (hh _ _ _ hp h3).2, h2, (hh _ _ _ hp h3).1⟩
end Go.Proofs.Ytlbcandecifkcaa
