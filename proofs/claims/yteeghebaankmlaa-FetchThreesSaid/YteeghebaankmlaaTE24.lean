/- Vertices, three by three: what holds between two rounds, and a round. -/
import Derived.Test.YteeghebaankmlaaTB24
import Derived.Test.YteeghebaankmlaaTC24
set_option linter.unusedSimpArgs false
set_option linter.unusedVariables false
set_option maxRecDepth 100000
set_option maxHeartbeats 4000000
namespace Go.Proofs.Yteeghebaankmlaa
open Go Go.RowKit Go.Shelf
theorem turn_le {C : Cx} {B : Nat} {h : List Row} (hr : Rel C B h) {W' : World} {row : Option Nat} (hg : C.w.grownBy W' row) (hrow : ∀ r, row = some r → B ≤ r ∧ ∃ o : Obj, C.w.heap[r]? = some o ∧ o.isCells = false) :
    Le B C { C with w := W' } ∧ Rel { C with w := W' } B h := by
  have hk : ∀ (b : Nat) us t m, C.w.heap[b]? = some (.cells us t m) → W'.heap[b]? = some (.cells us t m) := fun b us t m e => by
    rw [hg.block b (Array.getElem?_eq_some_iff.1 e).1 (fun hh => by
      obtain ⟨_, o, ho, hc⟩ := hrow b hh.symm
      rw [e] at ho
      simp only [Option.some.injEq] at ho
      subst ho
      simp [Obj.isCells] at hc)]
    exact e
  have hle : Le B C { C with w := W' } := by
    refine ⟨rfl, fun k ver b o h1 h2 => .inl ⟨h1, h2, fun n hn => ?_⟩, fun _ cur h => ⟨cur, h, Nat.le_refl _⟩, fun b off u h1 h2 h3 => ⟨?_, h1⟩, ⟨hg.os, hg.tape, hg.output, hg.size, fun k hkB => hg.block k (Nat.lt_of_lt_of_le hkB hr.size) fun hh => ?_⟩, fun _ h => h⟩
    · obtain ⟨us, t, e, hs⟩ := hn
      exact ⟨us, t, hk _ _ _ _ e, hs⟩
    · show W'.cell? ⟨b, off, none⟩ = some u
      unfold World.cell? at h3 ⊢
      cases hb : C.w.heap[(⟨b, off, none⟩ : Addr).block]? with
      | none => rw [hb] at h3; simp at h3
      | some o =>
        cases o with
        | cells us t m => rw [hk _ _ _ _ hb]; rw [hb] at h3; exact h3
        | _ => rw [hb] at h3; simp at h3
    · have := (hrow k hh.symm).1
      omega
  refine ⟨hle, hr.len, hr.vs, hr.inj, ?_, fun b hx => ⟨Nat.lt_of_lt_of_le (hr.X b hx).1 hg.size, (hr.X b hx).2⟩, Nat.le_trans hr.size hg.size⟩
  intro k b o r h1 h2
  obtain ⟨a1, us, t, e, hs, hc⟩ := hr.row k b o r h1 h2
  refine ⟨a1, us, t, hk _ _ _ _ e, hs, fun i c hi => ?_⟩
  obtain ⟨u, x1, x2⟩ := hc i c hi
  exact ⟨u, x1, x2.mono hle⟩
/-- What three indices name. -/
def tri (vl : List Int) (g : Nat → Int) (k : Nat) : List LV := V9 vl (g (3 * k)).toNat ++ V9 vl (g (3 * k + 1)).toNat ++ V9 vl (g (3 * k + 2)).toNat
def cellsP {m : Nat} (vl : List Int) (g : Nat → Int) (pre : List (Fin m)) : List LV := pre.flatMap fun x => tri vl g x.1
theorem cellsP_app {m : Nat} (vl : List Int) (g : Nat → Int) (pre : List (Fin m)) (x : Fin m) : cellsP vl g (pre ++ [x]) = cellsP vl g pre ++ tri vl g x.1 := by simp [cellsP]
def okI (nv : Nat) (g : Nat → Int) (k : Nat) : Prop := (0 ≤ g (3 * k) ∧ g (3 * k) < nv) ∧ (0 ≤ g (3 * k + 1) ∧ g (3 * k + 1) < nv) ∧ (0 ≤ g (3 * k + 2) ∧ g (3 * k + 2) < nv)
/-- The variables' rows: the vertices, the results, what is gathered; the iterator's two are nobody's. -/
structure At6 (n : Nat) (C : Cx) (h : List Row) (W : World) : Prop where
  w : C.w = W
  X : C.X = fun _ => False
  p0 : C.ρ[0]? = some (some (n, 0))
  p1 : C.ρ[1]? = some (some (n + 1, 0))
  p2 : C.ρ[2]? = some (some (n + 2, 0))
  p3 : C.ρ[3]? = some (some (n + 3, 0))
  n4 : ¬ C.own (n + 4)
  n5 : ¬ C.own (n + 5)
  rel : Rel C n h
def Inv (w : World) (V : LV) (vl : List Int) (nv : Nat) (g : Nat → Int) (m : Nat) (pre : List (Fin m)) (W : World) : Prop :=
  (∃ C h ko, At6 w.heap.size C h W ∧ HB h V ko pre.length (cellsP vl g pre)) ∧ Below w.heap.size w W ∧ w.heap.size + 6 ≤ W.heap.size ∧ ∀ x ∈ pre, okI nv g x.1
def InvX (w : World) (nv : Nat) (g : Nat → Int) (m : Nat) (c : Code) (pre : List (Fin m)) (W : World) : Prop :=
  c = .ret ∧ (∃ x : Fin m, ¬ okI nv g x.1) ∧ W.cell? ⟨w.heap.size + 1, 0, none⟩ = some (.slice none 0 0) ∧ W.cell? ⟨w.heap.size + 2, 0, none⟩ = some (.int .i64 10) ∧ Below w.heap.size w W
theorem At6.turn {n : Nat} {C : Cx} {h : List Row} {W W' : World} (H : At6 n C h W) {row : Option Nat} (hg : W.grownBy W' row) (hrow : ∀ r, row = some r → n ≤ r ∧ ∃ o : Obj, W.heap[r]? = some o ∧ o.isCells = false) : At6 n { C with w := W' } h W' := by
  have hw := H.w
  subst hw
  obtain ⟨_, hr⟩ := turn_le H.rel hg hrow
  exact ⟨rfl, H.X, H.p0, H.p1, H.p2, H.p3, H.n4, H.n5, hr⟩
theorem below_turn {n : Nat} {w W W' : World} (h : Below n w W) {row : Option Nat} (hg : W.grownBy W' row) (hs : n ≤ W.heap.size) (hrow : ∀ r, row = some r → n ≤ r) : Below n w W' :=
  h.trans ⟨hg.os, hg.tape, hg.output, hg.size, fun k hk => hg.block k (Nat.lt_of_lt_of_le hk hs) fun hh => by have := hrow k hh.symm; omega⟩
theorem inv_own (w : World) (V : LV) (vl : List Int) (nv : Nat) (g : Nat → Int) (m B : Nat) (hB : w.heap.size ≤ B) : OwnFrom B (Inv w V vl nv g m) := by
  rintro pre W W' row ⟨⟨C, h, ko, HA, HH⟩, hb, hs, ho⟩ hg hrow
  refine ⟨⟨_, h, ko, HA.turn hg fun r e => ⟨Nat.le_trans hB (hrow r e).1, (hrow r e).2⟩, HH⟩, below_turn hb hg (by omega) fun r e => Nat.le_trans hB (hrow r e).1, Nat.le_trans hs hg.size, ho⟩
theorem cell_turn {W W' : World} {row : Option Nat} (hg : W.grownBy W' row) (hrow : ∀ r, row = some r → ∃ o : Obj, W.heap[r]? = some o ∧ o.isCells = false) {b o : Nat} {u : Value} (h : W.cell? ⟨b, o, none⟩ = some u) : W'.cell? ⟨b, o, none⟩ = some u := by
  unfold World.cell? at h ⊢
  cases hb : W.heap[(⟨b, o, none⟩ : Addr).block]? with
  | none => rw [hb] at h; simp at h
  | some ob =>
    rw [hb] at h
    have : W'.heap[(⟨b, o, none⟩ : Addr).block]? = W.heap[(⟨b, o, none⟩ : Addr).block]? := hg.block _ (Array.getElem?_eq_some_iff.1 hb).1 fun hh => by
      obtain ⟨o', e1, e2⟩ := hrow _ hh.symm
      rw [hb] at e1
      simp only [Option.some.injEq] at e1
      subst e1
      cases ob <;> simp [Obj.isCells] at e2 h
    rw [this, hb]; exact h
theorem invx_own (w : World) (nv : Nat) (g : Nat → Int) (m B : Nat) (c : Code) (hB : w.heap.size ≤ B) : OwnFrom B (InvX w nv g m c) := by
  rintro pre W W' row ⟨rfl, hx, h1, h2, hb⟩ hg hrow
  have hs : w.heap.size ≤ W.heap.size := hb.size
  exact ⟨rfl, hx, cell_turn hg (fun r e => (hrow r e).2) h1, cell_turn hg (fun r e => (hrow r e).2) h2, below_turn hb hg hs fun r e => Nat.le_trans hB (hrow r e).1⟩
theorem fr_own {C C' : Cx} {b : Nat} (hf : Fr 0 C C') (hb : b < C.w.heap.size) (h : ¬ C.own b) : ¬ C'.own b := by
  rintro ⟨k, o, e⟩
  obtain ⟨k', o', _, e'⟩ := hf.old k b o (Nat.zero_le _) e hb
  exact h ⟨k', o', e'⟩
theorem fr_keeps {C C' : Cx} {B : Nat} {h : List Row} (hr : Rel C B h) (hf : Fr 0 C C') (B' : Nat) : KeepsFrom B' C.w C'.w := by
  refine ⟨hf.size, fun k o _ hk ho => ?_⟩
  rw [hf.same k (Array.getElem?_eq_some_iff.1 hk).1 fun k' o' _ e => ?_]
  · exact hk
  · have hlt : k' < h.length := by rw [← hr.len]; exact (List.getElem?_eq_some_iff.1 e).1
    obtain ⟨_, us, t, e2, _⟩ := hr.row k' k o' _ e (List.getElem?_eq_getElem hlt)
    rw [hk] at e2
    simp only [Option.some.injEq] at e2
    subst e2
    simp [Obj.isCells] at ho
theorem row_ver {C : Cx} {B : Nat} {h : List Row} (hr : Rel C B h) {k v : Nat} {cs : List LV} (e : rowOf h k v = some cs) : C.vs[k]? = some v := by
  rw [hr.vs, List.getElem?_map, at_rowOf e]; rfl
/-- What a row's cell stands for. -/
theorem row_cell {C : Cx} {B : Nat} {h : List Row} (hr : Rel C B h) {k v b i : Nat} {cs : List LV} {c : LV} (e : rowOf h k v = some cs) (hp : C.ρ[k]? = some (some (b, 0))) (hi : cs[i]? = some c) : ∃ u, C.w.cell? ⟨b, i, none⟩ = some u ∧ Conc C c u := by
  obtain ⟨_, us, t, e1, _, e3⟩ := hr.row k b 0 _ hp (at_rowOf e)
  obtain ⟨u, g1, g2⟩ := e3 i c hi
  refine ⟨u, ?_, g2⟩
  unfold World.cell?
  rw [show C.w.heap[(⟨b, i, none⟩ : Addr).block]? = _ from e1]
  simpa using g1
theorem keep_row {C C' : Cx} {B : Nat} {h h' : List Row} (hr : Rel C B h) (hr' : Rel C' B h') (hl : Le B C C') {k b o : Nat} {cs cs' : List LV} (e : rowOf h k 0 = some cs) (e' : rowOf h' k 0 = some cs') (hp : C.ρ[k]? = some (some (b, o))) : C'.ρ[k]? = some (some (b, o)) := by
  rcases hl.cur k 0 b o hp (row_ver hr e) with ⟨h1, _⟩ | ⟨cur, h1, h2⟩
  · exact h1
  · rw [row_ver hr' e'] at h1
    simp only [Option.some.injEq] at h1
    omega
end Go.Proofs.Yteeghebaankmlaa
