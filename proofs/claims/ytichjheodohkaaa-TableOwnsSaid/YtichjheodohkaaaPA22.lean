/- What a table does with what is put: small walks. -/
import Derived.Test.YtichjheodohkaaaIA22
import Derived.Maps.AppendAt
set_option linter.unusedSimpArgs false
set_option linter.unusedVariables false
set_option maxRecDepth 100000
set_option maxHeartbeats 4000000
namespace Go.Proofs.Ytichjheodohkaaa
open Go Go.RowKit
/-- Ints at a place. -/
def At (w : World) (b o : Nat) (l : List Int) : Prop := b < w.heap.size ∧ ∀ j, j < l.length → w.cell? ⟨b, o + j, none⟩ = some (.int .i64 (l.getD j 0))
theorem At.below {N : Nat} {w w' : World} {b o : Nat} {l : List Int} (hx : At w b o l) (h : Below N w w') (hb : b < N) : At w' b o l :=
  ⟨Nat.lt_of_lt_of_le hx.1 h.size, fun j hj => by rw [cell_below h hb]; exact hx.2 j hj⟩
/-- Nothing but one block has turned. -/
structure But (bm : Nat) (w w' : World) : Prop where
  os : w'.os = w.os
  tape : w'.tape = w.tape
  output : w'.output = w.output
  size : w.heap.size ≤ w'.heap.size
  block : ∀ k, k < w.heap.size → k ≠ bm → w'.heap[k]? = w.heap[k]?
theorem But.of {bm : Nat} {w w' : World} (h : Below w.heap.size w w') : But bm w w' := ⟨h.os, h.tape, h.output, h.size, fun k hk _ => h.block k hk⟩
theorem But.trans {bm : Nat} {a b c : World} (h : But bm a b) (k : But bm b c) : But bm a c :=
  ⟨k.os.trans h.os, k.tape.trans h.tape, k.output.trans h.output, Nat.le_trans h.size k.size, fun i hi hn => (k.block i (Nat.lt_of_lt_of_le hi h.size) hn).trans (h.block i hi hn)⟩
theorem But.set {bm : Nat} {w w' : World} (h : But bm w w') (o : Obj) : But bm w { w' with heap := w'.heap.setIfInBounds bm o } :=
  ⟨h.os, h.tape, h.output, by simp; exact h.size, fun k hk hn => by simp [Array.getElem?_setIfInBounds_ne (Ne.symm hn)]; exact h.block k hk hn⟩
theorem But.below {bm N : Nat} {w w' : World} (h : But bm w w') (hN : N ≤ bm) (hs : N ≤ w.heap.size) : Below N w w' :=
  ⟨h.os, h.tape, h.output, h.size, fun k hk => h.block k (by omega) (by omega)⟩
theorem But.cell {bm : Nat} {w w' : World} (h : But bm w w') {b o : Nat} (hb : b < w.heap.size) (hn : b ≠ bm) : w'.cell? ⟨b, o, none⟩ = w.cell? ⟨b, o, none⟩ := by
  unfold World.cell?
  rw [show w'.heap[(⟨b, o, none⟩ : Addr).block]? = w.heap[b]? from h.block b hb hn]
theorem At.but {bm : Nat} {w w' : World} {b o : Nat} {l : List Int} (hx : At w b o l) (h : But bm w w') (hn : b ≠ bm) : At w' b o l :=
  ⟨Nat.lt_of_lt_of_le hx.1 h.size, fun j hj => by rw [h.cell hx.1 hn]; exact hx.2 j hj⟩
/-- A clone's contract. -/
def CloneG (f e : Nat) : Prop := ∀ (n b o c : Nat) (l : List Int) (w : World), 0 < n → n ≤ 4096 → l.length = n * e → n ≤ c → At w b o l → Calls Try.prog f #[.slice (some ⟨b, o, none⟩) n c] w fun x w' => (∃ b' o' c', n ≤ c' ∧ x = .returned (.slice (some ⟨b', o', none⟩) n c') ∧ At w' b' o' l ∧ w.heap.size ≤ b' ∧ ∀ i, w'.frozen? ⟨b', i, none⟩ = false) ∧ Below w.heap.size w w'
theorem atoms_i : ∀ l : List Int, (l.map LV.i).all atomB = true
  | [] => rfl
  | x :: l => by simp [atomB, Value.oneCell']
theorem cloneI_ev (n : Nat) (l : List Int) (h0 : 0 < n) (hn : n ≤ 4096) (hl : l.length = n * 1) : evF cm 10 26 [.im (l.map LV.i) n false] [] 0 = some (.sl 0 0 0 n 1 n, [⟨0, l.map LV.i⟩]) := by
  have g1 : ¬ n = 0 := by omega
  have g2 : n ≤ 9223372036854775807 := by omega
  have g3 : n * 8 ≤ 140737488355328 := by omega
  have hl' : (l.map LV.i).length = n := by rw [List.length_map]; omega
  have ht : List.take n (l.map LV.i) = l.map LV.i := List.take_of_length_le (by omega)
  have hat := atoms_i l
  have hcl := closedL_ints l
  generalize l.map LV.i = L at *
  rw [show (10 : Nat) = 9 + 1 from rfl, evH_fun (m := c26) rfl _ _ _ _ rfl]
  simp -implicitDefEqProofs only [c26, hl', ht, hat, hcl, g1, g2, g3, push_cast, Nat.reduceAdd, Nat.reduceMul, Nat.reduceSub, Nat.reduceLT, Nat.reduceLeDiff, Nat.reduceEqDiff, Nat.reducePow, Int.reduceToNat, Int.reduceLT, Int.reduceLE, Int.reduceNeg, Int.reduceEq, Int.reducePow, reduceIte, reduceCtorEq, Int.reduceMul, Int.reduceAdd, Int.reduceSub, Int.reduceMod, Int.reduceDiv, Int.reduceTDiv, Int.reduceTMod, iter_s]
theorem cloneV_ev (n : Nat) (l : List Int) (h0 : 0 < n) (hn : n ≤ 4096) (hl : l.length = n * 9) : evF cm 10 25 [.im (l.map LV.i) n false] [] 0 = some (.sl 0 0 0 n 9 n, [⟨0, l.map LV.i⟩]) := by
  have g1 : ¬ n = 0 := by omega
  have g2 : n ≤ 9223372036854775807 := by omega
  have g3 : n * 72 ≤ 140737488355328 := by omega
  have hl' : (l.map LV.i).length = n * 9 := by rw [List.length_map]; omega
  have ht : List.take (n * 9) (l.map LV.i) = l.map LV.i := List.take_of_length_le (by omega)
  have hat := atoms_i l
  have hcl := closedL_ints l
  generalize l.map LV.i = L at *
  rw [show (10 : Nat) = 9 + 1 from rfl, evH_fun (m := c25) rfl _ _ _ _ rfl]
  simp -implicitDefEqProofs only [c25, hl', ht, hat, hcl, g1, g2, g3, push_cast, Nat.reduceAdd, Nat.reduceMul, Nat.reduceSub, Nat.reduceLT, Nat.reduceLeDiff, Nat.reduceEqDiff, Nat.reducePow, Int.reduceToNat, Int.reduceLT, Int.reduceLE, Int.reduceNeg, Int.reduceEq, Int.reducePow, reduceIte, reduceCtorEq, Int.reduceMul, Int.reduceAdd, Int.reduceSub, Int.reduceMod, Int.reduceDiv, Int.reduceTDiv, Int.reduceTMod, iter_s]
theorem im_conc {w : World} {b o n c : Nat} {l : List Int} (hn : n ≤ c) (hx : At w b o l) : Conc ⟨[], [], fun _ => False, w⟩ (.im (l.map LV.i) n false) (.slice (some ⟨b, o, none⟩) n c) := by
  refine Conc.im (fun j => .int .i64 (l.getD j 0)) hn (fun h => by cases h) (fun j e he => ⟨?_, fun h => h, ?_⟩) (fun j e he => ?_)
  · rintro ⟨k, o2, h⟩; simp at h
  · have hj := (List.getElem?_eq_some_iff.1 he).1
    rw [List.length_map] at hj
    exact hx.2 j hj
  · have hj := (List.getElem?_eq_some_iff.1 he).1
    rw [List.length_map] at hj
    rw [List.getElem?_map, List.getElem?_eq_getElem hj] at he
    simp only [Option.map_some, Option.some.injEq] at he
    subst he
    have : l.getD j 0 = l[j] := by simp [hj]
    rw [this]
    exact .v _
theorem clone_g {f e : Nat} (hev : ∀ (n : Nat) (l : List Int), 0 < n → n ≤ 4096 → l.length = n * e → evF cm 10 f [.im (l.map LV.i) n false] [] 0 = some (.sl 0 0 0 n e n, [⟨0, l.map LV.i⟩])) : CloneG f e := by
  intro n b o c l w h0 hn hl hc hx
  have hmo : Try.prog.follows .mixedOrders = true := by kernel_rfl
  have ha : ConcL ⟨[], [], fun _ => False, w⟩ [.im (l.map LV.i) n false] [.slice (some ⟨b, o, none⟩) n c] := by
    refine ⟨rfl, fun i cc u h1 h2 => ?_⟩
    match i with
    | 0 => simp at h1 h2; subst h1; subst h2; exact im_conc hc hx
    | i + 1 => simp at h1
  refine (((evF_ok hcm hmo 10) f _ [] 0 _ _ (hev n l h0 hn hl)).2 ⟨[], [], fun _ => False, w⟩ w.heap.size _ ha (Rel.empty _ _ fun _ h => h.elim)).mono ?_
  rintro x w' ⟨C', u, rfl, rfl, x1, x2, x3, _⟩
  refine ⟨?_, x3.below⟩
  cases x1 with
  | sl h1 h2 h3 h4 =>
    rename_i bb oo cc
    obtain ⟨hB, us, t, g1, _, g3⟩ := x2.row 0 bb oo _ h1 rfl
    refine ⟨bb, oo + 0, cc, by omega, rfl, ⟨(Array.getElem?_eq_some_iff.1 g1).1, fun j hj => ?_⟩, hB, fun i => by simp [World.frozen?, show C'.w.heap[(⟨bb, i, none⟩ : Addr).block]? = _ from g1]⟩
    obtain ⟨u0, a1, a2⟩ := g3 j (.i (l.getD j 0)) (by simp [hj])
    have := Conc.v_inv a2
    subst this
    unfold World.cell?
    rw [show C'.w.heap[(⟨bb, oo + 0 + j, none⟩ : Addr).block]? = _ from g1]
    simpa using a1
  | slOld h1 h2 =>
    have := x2.vs
    rw [this] at h1
    simp at h1
    omega
theorem cloneI_c : CloneG 26 1 := clone_g cloneI_ev
theorem cloneV_c : CloneG 25 9 := clone_g cloneV_ev
end Go.Proofs.Ytichjheodohkaaa
