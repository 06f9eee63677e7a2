/- Vertices, three by three: where the rounds begin. -/
import Derived.Test.YteeghebaankmlaaTF24
set_option linter.unusedSimpArgs false
set_option linter.unusedVariables false
set_option maxRecDepth 100000
set_option maxHeartbeats 4000000
namespace Go.Proofs.Yteeghebaankmlaa
open Go Go.RowKit Go.Shelf
/-- A slice of things of ints, as it lies in the world, and as the evaluator holds it. -/
def VIn (w : World) (V : LV) (vl : List Int) (nv cv : Nat) (av : Option Addr) : Prop :=
  (V = .nils ∧ av = none ∧ nv = 0 ∧ cv = 0 ∧ vl = []) ∨ ∃ bv ov full, av = some ⟨bv, ov, none⟩ ∧ V = .im (vl.map LV.i) nv full ∧ nv ≤ cv ∧ (full = true → cv = nv) ∧ (vl ≠ [] → bv < w.heap.size) ∧ ∀ j, j < vl.length → w.cell? ⟨bv, ov + j, none⟩ = some (.int .i64 (vl.getD j 0))
def W6 (w : World) (av : Option Addr) (nv cv : Nat) (s : Value) : World :=
  (((((w.alloc (.cells #[.slice av nv cv] 22)).alloc (.cells #[.slice none 0 0] 26)).alloc (.cells #[.int .i64 0] 27)).alloc (.cells #[.slice none 0 0] 26)).alloc (.cells #[s] 23)).alloc (.cells #[.int .i64 3] 3)
theorem W6_at (w : World) (av : Option Addr) (nv cv : Nat) (s : Value) : (W6 w av nv cv s).heap[w.heap.size]? = some (.cells #[.slice av nv cv] 22) ∧ (W6 w av nv cv s).heap[w.heap.size + 1]? = some (.cells #[.slice none 0 0] 26) ∧ (W6 w av nv cv s).heap[w.heap.size + 2]? = some (.cells #[.int .i64 0] 27) ∧ (W6 w av nv cv s).heap[w.heap.size + 3]? = some (.cells #[.slice none 0 0] 26) ∧ (W6 w av nv cv s).heap[w.heap.size + 4]? = some (.cells #[s] 23) ∧ (W6 w av nv cv s).heap[w.heap.size + 5]? = some (.cells #[.int .i64 3] 3) ∧ (W6 w av nv cv s).heap.size = w.heap.size + 6 := by
  have e : (W6 w av nv cv s).heap = (((((w.heap.push (.cells #[.slice av nv cv] 22)).push (.cells #[.slice none 0 0] 26)).push (.cells #[.int .i64 0] 27)).push (.cells #[.slice none 0 0] 26)).push (.cells #[s] 23)).push (.cells #[.int .i64 3] 3) := rfl
  rw [e]
  have pg : ∀ (h : Array Obj) (o : Obj) (k : Nat), (h.push o)[k]? = if k = h.size then some o else h[k]? := fun h o k => Array.getElem?_push
  refine ⟨?_, ?_, ?_, ?_, ?_, ?_, by simp⟩
  all_goals
    simp only [pg, Array.size_push]
    repeat (first | rw [if_neg (by omega)] | rw [if_pos (by omega)])
    all_goals (try simp only [if_true])
theorem W6_below (w : World) (av : Option Addr) (nv cv : Nat) (s : Value) : Below w.heap.size w (W6 w av nv cv s) :=
  ((((((Below.refl _ w).alloc (Nat.le_refl _) _).alloc (by simp) _).alloc (by simp; omega) _).alloc (by simp; omega) _).alloc (by simp; omega) _).alloc (by simp; omega) _
theorem inv_start (w : World) (V : LV) (vl : List Int) (nv cv : Nat) (av : Option Addr) (g : Nat → Int) (m : Nat) (s : Value) (hV : VIn w V vl nv cv av) : Inv w V vl nv g m [] (W6 w av nv cv s) := by
  obtain ⟨h0, h1, h2, h3, h4, h5, hs⟩ := W6_at w av nv cv s
  have hb := W6_below w av nv cv s
  generalize W6 w av nv cv s = W at *
  let C : Cx := ⟨[some (w.heap.size, 0), some (w.heap.size + 1, 0), some (w.heap.size + 2, 0), some (w.heap.size + 3, 0)], [0, 0, 0, 0], fun _ => False, W⟩
  have hown : ∀ b, C.own b → w.heap.size ≤ b ∧ b < w.heap.size + 4 := by
    rintro b ⟨k, o, e⟩
    match k with
    | 0 => simp [C] at e; omega
    | 1 => simp [C] at e; omega
    | 2 => simp [C] at e; omega
    | 3 => simp [C] at e; omega
    | k + 4 => simp [C] at e
  have hVC : Conc C V (.slice av nv cv) := by
    rcases hV with ⟨rfl, rfl, rfl, rfl, rfl⟩ | ⟨bv, ov, full, rfl, rfl, k1, k2, k3, k4⟩
    · exact .v _
    · refine Conc.im (fun j => .int .i64 (vl.getD j 0)) k1 k2 (fun j e he => ⟨fun ho => ?_, fun h => h, ?_⟩) (fun j e he => ?_)
      · have hj := (List.getElem?_eq_some_iff.1 he).1
        rw [List.length_map] at hj
        have := (hown _ ho).1
        have := k3 (by rintro rfl; simp at hj)
        omega
      · have hj := (List.getElem?_eq_some_iff.1 he).1
        rw [List.length_map] at hj
        exact (hb.cell (p := ⟨bv, ov + j, none⟩) (k3 (by rintro rfl; simp at hj))).trans (k4 j hj)
      · have hj := (List.getElem?_eq_some_iff.1 he).1
        rw [List.length_map] at hj
        rw [List.getElem?_map, List.getElem?_eq_getElem hj] at he
        simp only [Option.map_some, Option.some.injEq] at he
        subst he
        have : vl.getD j 0 = vl[j] := by simp [hj]
        rw [this]
        exact .v _
  refine ⟨⟨C, [⟨0, [V]⟩, ⟨0, [.nils]⟩, ⟨0, [.i 0]⟩, ⟨0, [.nils]⟩], 0, ⟨rfl, rfl, rfl, rfl, rfl, rfl, fun h => by have := (hown _ h).2; omega, fun h => by have := (hown _ h).2; omega, ⟨rfl, rfl, ?_, ?_, fun b h => h.elim, by show _ ≤ W.heap.size; omega⟩⟩, ⟨rfl, rfl, rfl, rfl, fun h => absurd rfl h, fun _ => rfl, rfl, rfl⟩⟩, hb, by omega, fun x hx => by simp at hx⟩
  · intro k k' b o o' e1 e2
    match k, k' with
    | 0, 0 => rfl
    | 1, 1 => rfl
    | 2, 2 => rfl
    | 3, 3 => rfl
    | 0, 1 => simp [C] at e1 e2; omega
    | 0, 2 => simp [C] at e1 e2; omega
    | 0, 3 => simp [C] at e1 e2; omega
    | 1, 0 => simp [C] at e1 e2; omega
    | 1, 2 => simp [C] at e1 e2; omega
    | 1, 3 => simp [C] at e1 e2; omega
    | 2, 0 => simp [C] at e1 e2; omega
    | 2, 1 => simp [C] at e1 e2; omega
    | 2, 3 => simp [C] at e1 e2; omega
    | 3, 0 => simp [C] at e1 e2; omega
    | 3, 1 => simp [C] at e1 e2; omega
    | 3, 2 => simp [C] at e1 e2; omega
    | k + 4, _ => simp [C] at e1
    | 0, k + 4 => simp [C] at e2
    | 1, k + 4 => simp [C] at e2
    | 2, k + 4 => simp [C] at e2
    | 3, k + 4 => simp [C] at e2
  · have one : ∀ (b : Nat) (u : Value) (t : TypeId) (c : LV), W.heap[b]? = some (.cells #[u] t) → Conc C c u → ∃ us tt, C.w.heap[b]? = some (.cells us tt (0, 0)) ∧ 0 + [c].length ≤ us.size ∧ ∀ (i : Nat) c', [c][i]? = some c' → ∃ u', us[0 + i]? = some u' ∧ Conc C c' u' := fun b u t c h1 h2 => ⟨#[u], t, h1, by simp, fun i c' hi => by
      match i with
      | 0 => simp at hi; subst hi; exact ⟨u, rfl, h2⟩
      | i + 1 => simp at hi⟩
    intro k b o r e1 e2
    match k with
    | 0 => simp [C] at e1 e2; obtain ⟨rfl, rfl⟩ := e1; subst e2; exact ⟨by omega, one _ _ _ _ h0 hVC⟩
    | 1 => simp [C] at e1 e2; obtain ⟨rfl, rfl⟩ := e1; subst e2; exact ⟨by omega, one _ _ _ _ h1 (.v _)⟩
    | 2 => simp [C] at e1 e2; obtain ⟨rfl, rfl⟩ := e1; subst e2; exact ⟨by omega, one _ _ _ _ h2 (.v _)⟩
    | 3 => simp [C] at e1 e2; obtain ⟨rfl, rfl⟩ := e1; subst e2; exact ⟨by omega, one _ _ _ _ h3 (.v _)⟩
    | k + 4 => simp [C] at e1
end Go.Proofs.Yteeghebaankmlaa
