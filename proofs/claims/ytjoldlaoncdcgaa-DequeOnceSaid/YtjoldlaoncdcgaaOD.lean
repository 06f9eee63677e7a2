/- A list of numbers as a slice in a heap, and what the document's answer makes of it. -/
import Derived.Test.YtjoldlaoncdcgaaOC
import Derived.Test.YtjoldlaoncdcgaaMN
set_option linter.unusedSimpArgs false
set_option linter.unusedVariables false
set_option maxRecDepth 100000
set_option maxHeartbeats 16000000
namespace Go.Proofs.Ytjoldlaoncdcgaa
open Go
/-- A list's slice. -/
inductive SlX (P : Nat → Prop) (h : List Row) (X : List Int) : LV → Prop where
  | nil (e : X = []) : SlX P h X .nils
  | im (b : Bool) (e : X = []) : SlX P h X (.im [] 0 b)
  | sl (k ver off cap : Nat) (A : List Int) (hr : rowOf h k ver = some (A.map LV.i)) (hcap : X.length ≤ cap) (ho : off + X.length ≤ A.length) (hx : (A.drop off).take X.length = X) (hp : P k) : SlX P h X (.sl k ver off X.length 1 cap)
theorem SlX.keep {P Q : Nat → Prop} {h h' : List Row} {X : List Int} {x : LV} (H : SlX P h X x) (hk : ∀ k v cs, P k → rowOf h k v = some cs → rowOf h' k v = some cs ∧ Q k) : SlX Q h' X x := by
  cases H with
  | nil e => exact .nil e
  | im b e => exact .im b e
  | sl k ver off cap A hr hcap ho hx hp => exact .sl k ver off cap A (hk _ _ _ hp hr).1 hcap ho hx (hk _ _ _ hp hr).2
variable {P : Nat → Prop}
theorem SlX.len {h : List Row} {X : List Int} {x : LV} (H : SlX P h X x) : lenE x = some (.i X.length) := by
  cases H with
  | nil e => subst e; rfl
  | im b e => subst e; rfl
  | sl => rfl
theorem ints_atom : ∀ X : List Int, (X.map LV.i).all atomB = true
  | [] => rfl
  | x :: X => by simp [atomB, Value.oneCell']
theorem SlX.new {h : List Row} (hP : ∀ k, h.length ≤ k → P k) (X : List Int) (v n : Nat) (cap : Nat) (hn : n = X.length) (hc : n ≤ cap) : SlX P (h ++ [⟨v, X.map LV.i⟩]) X (.sl h.length v 0 n 1 cap) := by
  subst hn
  exact .sl h.length v 0 cap X rowOf_app_eq hc (by simp) (by simp) (hP _ (Nat.le_refl _))
theorem do_push (k : Nat) (h : List Row) (hP : ∀ k, h.length ≤ k → P k) (hn : h.isEmpty = false) (X : List Int) (x : LV) (H : SlX P h X x) (c : Nat) (v : Int) (hc : X.length < c) (hl : X.length < 100) :
    ∃ y h', evF cm (k + 1) 10 [x, .i c, .i 0, .i v] h 0 = some (.tup [y, .i 1, .i 0], h ++ h') ∧ SlX P (h ++ h') (X ++ [v]) y := by
  have g1 : ¬ (c : Int) ≤ X.length := by omega
  rw [evX_fun (m := c10) rfl _ _ _ _ hn rfl]
  cases H with
  | nil e =>
    subst e
    have g2 : ¬ (c : Int) ≤ 0 := by simpa using g1
    simp -implicitDefEqProofs only [c10, g2, push_cast, Nat.reduceAdd, Nat.reduceMul, Nat.reduceSub, Nat.reduceLT, Nat.reduceLeDiff, Nat.reduceEqDiff, Nat.reducePow, Int.reduceToNat, Int.reduceLT, Int.reduceLE, Int.reduceNeg, Int.reduceEq, Int.reducePow, reduceIte, reduceCtorEq, Int.reduceMul, Int.reduceAdd, Int.reduceSub, Int.reduceMod, Int.reduceDiv, Int.reduceTDiv, Int.reduceTMod, iter_s]
    exact ⟨_, _, rfl, SlX.new hP [v] 0 1 1 rfl (Nat.le_refl _)⟩
  | im b e =>
    subst e
    have g2 : ¬ (c : Int) ≤ 0 := by simpa using g1
    simp -implicitDefEqProofs only [c10, g2, push_cast, Nat.reduceAdd, Nat.reduceMul, Nat.reduceSub, Nat.reduceLT, Nat.reduceLeDiff, Nat.reduceEqDiff, Nat.reducePow, Int.reduceToNat, Int.reduceLT, Int.reduceLE, Int.reduceNeg, Int.reduceEq, Int.reducePow, reduceIte, reduceCtorEq, Int.reduceMul, Int.reduceAdd, Int.reduceSub, Int.reduceMod, Int.reduceDiv, Int.reduceTDiv, Int.reduceTMod, iter_s]
    exact ⟨_, _, rfl, SlX.new hP [v] 0 1 1 rfl (Nat.le_refl _)⟩
  | sl kk ver off cap A hr hcap ho hx hp =>
    have z1 : List.take X.length (List.drop off (A.map LV.i)) = X.map LV.i := by rw [← List.map_drop, ← List.map_take, hx]
    have z2 := ints_atom X
    have z3 : off + X.length ≤ (A.map LV.i).length := by rw [List.length_map]; exact ho
    by_cases h0 : X.length = 0
    · have : X = [] := List.eq_nil_of_length_eq_zero h0
      subst this
      have g2 : ¬ (c : Int) ≤ 0 := by simpa using g1
      simp only [List.length_nil] at z1 ho ⊢
      have ho2 : off ≤ A.length := by omega
      simp -implicitDefEqProofs only [c10, g2, hr, z1, z2, ho, ho2, List.length_map, List.map_nil, List.all_nil, push_cast, Nat.reduceAdd, Nat.reduceMul, Nat.reduceSub, Nat.reduceLT, Nat.reduceLeDiff, Nat.reduceEqDiff, Nat.reducePow, Int.reduceToNat, Int.reduceLT, Int.reduceLE, Int.reduceNeg, Int.reduceEq, Int.reducePow, reduceIte, reduceCtorEq, Int.reduceMul, Int.reduceAdd, Int.reduceSub, Int.reduceMod, Int.reduceDiv, Int.reduceTDiv, Int.reduceTMod, iter_s]
      exact ⟨_, _, rfl, SlX.new hP [v] 0 1 1 rfl (Nat.le_refl _)⟩
    · have z4 : X.length ≤ 9223372036854775807 := by omega
      have z5 : X.length * 8 ≤ 140737488355328 := by omega
      have z6 : ∀ r : Row, rowOf (h ++ [r]) h.length 0 = rowOf [r] 0 0 := boxRow h
      have z7 : X.length + 1 ≤ 9223372036854775807 := by omega
      have z8 : (X.length + 1) * 8 ≤ 140737488355328 := by omega
      have z9 : ∀ a x : Row, (h ++ [a]).set h.length x = h ++ [x] := fun a x => app1_0
      simp -implicitDefEqProofs only [c10, g1, hr, z1, z2, ho, z4, z5, z6, z7, z8, z9, h0, List.length_map, push_cast, Nat.reduceAdd, Nat.reduceMul, Nat.reduceSub, Nat.reduceLT, Nat.reduceLeDiff, Nat.reduceEqDiff, Nat.reducePow, Int.reduceToNat, Int.reduceLT, Int.reduceLE, Int.reduceNeg, Int.reduceEq, Int.reducePow, reduceIte, reduceCtorEq, Int.reduceMul, Int.reduceAdd, Int.reduceSub, Int.reduceMod, Int.reduceDiv, Int.reduceTDiv, Int.reduceTMod, iter_s]
      exact ⟨_, _, rfl, by have := SlX.new (h := h) hP (X ++ [v]) 1 (X.length + 1) (X.length + 1) (by simp) (Nat.le_refl _); rw [List.map_append] at this; exact this⟩
theorem do_full (k : Nat) (h : List Row) (hn : h.isEmpty = false) (X : List Int) (x : LV) (H : SlX P h X x) (c : Nat) (v : Int) (hc : c ≤ X.length) (hc0 : 0 < c) :
    evF cm (k + 1) 10 [x, .i c, .i 0, .i v] h 0 = some (.tup [x, .i 4, .i 0], h) := by
  have g1 : (c : Int) ≤ X.length := by omega
  rw [evX_fun (m := c10) rfl _ _ _ _ hn rfl]
  cases H with
  | nil e => subst e; simp at hc; omega
  | im b e => subst e; simp at hc; omega
  | sl kk ver off cap A hr hcap ho hx hp =>
    simp -implicitDefEqProofs only [c10, g1, hr, push_cast, Nat.reduceAdd, Nat.reduceMul, Nat.reduceSub, Nat.reduceLT, Nat.reduceLeDiff, Nat.reduceEqDiff, Nat.reducePow, Int.reduceToNat, Int.reduceLT, Int.reduceLE, Int.reduceNeg, Int.reduceEq, Int.reducePow, reduceIte, reduceCtorEq, Int.reduceMul, Int.reduceAdd, Int.reduceSub, Int.reduceMod, Int.reduceDiv, Int.reduceTDiv, Int.reduceTMod, iter_s]
theorem do_none (k : Nat) (h : List Row) (hn : h.isEmpty = false) (x : LV) (H : SlX P h [] x) (c : Nat) (n v : Int) (hm : n ≠ 0) :
    evF cm (k + 1) 10 [x, .i c, .i n, .i v] h 0 = some (.tup [x, .i 2, .i 0], h) := by
  have hn' : ¬ n = 0 := hm
  rw [evX_fun (m := c10) rfl _ _ _ _ hn rfl]
  cases H with
  | nil e =>
    simp -implicitDefEqProofs only [c10, hn', push_cast, Nat.reduceAdd, Nat.reduceMul, Nat.reduceSub, Nat.reduceLT, Nat.reduceLeDiff, Nat.reduceEqDiff, Nat.reducePow, Int.reduceToNat, Int.reduceLT, Int.reduceLE, Int.reduceNeg, Int.reduceEq, Int.reducePow, reduceIte, reduceCtorEq, Int.reduceMul, Int.reduceAdd, Int.reduceSub, Int.reduceMod, Int.reduceDiv, Int.reduceTDiv, Int.reduceTMod, iter_s]
  | im b e =>
    simp -implicitDefEqProofs only [c10, hn', push_cast, Nat.reduceAdd, Nat.reduceMul, Nat.reduceSub, Nat.reduceLT, Nat.reduceLeDiff, Nat.reduceEqDiff, Nat.reducePow, Int.reduceToNat, Int.reduceLT, Int.reduceLE, Int.reduceNeg, Int.reduceEq, Int.reducePow, reduceIte, reduceCtorEq, Int.reduceMul, Int.reduceAdd, Int.reduceSub, Int.reduceMod, Int.reduceDiv, Int.reduceTDiv, Int.reduceTMod, iter_s]
  | sl kk ver off cap A hr hcap ho hx hp =>
    simp -implicitDefEqProofs only [c10, hn', hr, List.length_nil, push_cast, Nat.reduceAdd, Nat.reduceMul, Nat.reduceSub, Nat.reduceLT, Nat.reduceLeDiff, Nat.reduceEqDiff, Nat.reducePow, Int.reduceToNat, Int.reduceLT, Int.reduceLE, Int.reduceNeg, Int.reduceEq, Int.reducePow, reduceIte, reduceCtorEq, Int.reduceMul, Int.reduceAdd, Int.reduceSub, Int.reduceMod, Int.reduceDiv, Int.reduceTDiv, Int.reduceTMod, iter_s]
theorem do_pop (k : Nat) (h : List Row) (hn : h.isEmpty = false) (X : List Int) (z : Int) (x : LV) (H : SlX P h (X ++ [z]) x) (c : Nat) (v : Int) (hl : X.length < 1000) :
    ∃ y, evF cm (k + 1) 10 [x, .i c, .i 1, .i v] h 0 = some (.tup [y, .i 1, .i z], h) ∧ SlX P h X y := by
  rw [evX_fun (m := c10) rfl _ _ _ _ hn rfl]
  generalize hL : X ++ [z] = L at H
  cases H with
  | nil e => subst e; simp at hL
  | im b e => subst e; simp at hL
  | sl kk ver off cap A hr hcap ho hx hp =>
    have hl2 : L.length = X.length + 1 := by rw [← hL]; simp
    have z0 : A[off + X.length]? = some z := by
      have : (List.take L.length (List.drop off A))[X.length]? = some z := by rw [hx, ← hL]; simp
      rw [List.getElem?_take, if_pos (by omega), List.getElem?_drop] at this; exact this
    have z1 : (A.map LV.i)[off + X.length]? = some (.i z) := by simp [z0]
    rw [hl2] at ho hx hcap ⊢
    have g0 : ¬ ((X.length + 1 : Nat) : Int) = 0 := by omega
    have w1 : IntKind.i64.wrap (((X.length + 1 : Nat) : Int) - 1) = (X.length : Int) := by rw [w64 _ (by omega) (by omega)]; omega
    have g1 : (0 : Int) ≤ (X.length : Int) := by omega
    have g2 : (X.length : Int) ≤ ((X.length + 1 : Nat) : Int) := by omega
    have g3 : (X.length : Int) < ((X.length + 1 : Nat) : Int) := by omega
    have g4 : (X.length : Int) ≤ (cap : Int) := by omega
    have g5 : ¬ (0 : Int) = (cap : Int) := by omega
    generalize hN : ((X.length + 1 : Nat) : Int) = N at *
    simp -implicitDefEqProofs only [c10, g0, g1, g2, g3, g4, g5, w1, hr, z1, hN, push_cast, Nat.reduceAdd, Nat.reduceMul, Nat.reduceSub, Nat.reduceLT, Nat.reduceLeDiff, Nat.reduceEqDiff, Nat.reducePow, Int.reduceToNat, Int.reduceLT, Int.reduceLE, Int.reduceNeg, Int.reduceEq, Int.reducePow, reduceIte, reduceCtorEq, Int.reduceMul, Int.reduceAdd, Int.reduceSub, Int.reduceMod, Int.reduceDiv, Int.reduceTDiv, Int.reduceTMod, iter_s]
    exact ⟨_, rfl, .sl kk ver off cap A hr (by omega) (by omega) (by
      have := congrArg (List.take X.length) hx
      rw [List.take_take, show min X.length (X.length + 1) = X.length by omega] at this
      rw [this, ← hL]; simp) hp⟩
theorem do_steal (k : Nat) (h : List Row) (hn : h.isEmpty = false) (X : List Int) (z : Int) (x : LV) (H : SlX P h (z :: X) x) (c : Nat) (v : Int) (hl : X.length < 1000) :
    ∃ y, evF cm (k + 1) 10 [x, .i c, .i 2, .i v] h 0 = some (.tup [y, .i 1, .i z], h) ∧ SlX P h X y := by
  rw [evX_fun (m := c10) rfl _ _ _ _ hn rfl]
  generalize hL : z :: X = L at H
  cases H with
  | nil e => subst e; simp at hL
  | im b e => subst e; simp at hL
  | sl kk ver off cap A hr hcap ho hx hp =>
    have hl2 : L.length = X.length + 1 := by rw [← hL]; simp
    have z0 : A[off]? = some z := by
      have : (List.take L.length (List.drop off A))[0]? = some z := by rw [hx, ← hL]; simp
      rw [List.getElem?_take, if_pos (by omega), List.getElem?_drop] at this; exact this
    have z1 : (A.map LV.i)[off]? = some (.i z) := by simp [z0]
    rw [hl2] at ho hx hcap ⊢
    have hx2 : List.take X.length (List.drop (off + 1) A) = X := by
      have := congrArg (List.drop 1) hx
      rw [List.drop_take, List.drop_drop] at this
      rw [show X.length + 1 - 1 = X.length by omega] at this
      rw [this, ← hL]; rfl
    have g0 : ¬ ((X.length + 1 : Nat) : Int) = 0 := by omega
    have g1 : (1 : Int) ≤ ((X.length + 1 : Nat) : Int) := by omega
    have g2 : (0 : Int) < ((X.length + 1 : Nat) : Int) := by omega
    have g3 : ((X.length + 1 : Nat) : Int) ≤ (cap : Int) := by omega
    have g4 : X.length + 1 - 1 = X.length := by omega
    by_cases hcc : cap = 1
    · subst hcc
      have : X = [] := List.eq_nil_of_length_eq_zero (by omega)
      subst this
      simp -implicitDefEqProofs only [c10, hr, z1, push_cast, Nat.reduceAdd, Nat.reduceMul, Nat.reduceSub, Nat.reduceLT, Nat.reduceLeDiff, Nat.reduceEqDiff, Nat.reducePow, Int.reduceToNat, Int.reduceLT, Int.reduceLE, Int.reduceNeg, Int.reduceEq, Int.reducePow, reduceIte, reduceCtorEq, Int.reduceMul, Int.reduceAdd, Int.reduceSub, Int.reduceMod, Int.reduceDiv, Int.reduceTDiv, Int.reduceTMod, iter_s]
      exact ⟨_, rfl, .im _ rfl⟩
    · have g5 : ¬ (1 : Int) = (cap : Int) := by omega
      generalize hN : ((X.length + 1 : Nat) : Int) = N at *
      simp -implicitDefEqProofs only [c10, g0, g1, g2, g3, g4, g5, hr, z1, hN, push_cast, Nat.reduceAdd, Nat.reduceMul, Nat.reduceSub, Nat.reduceLT, Nat.reduceLeDiff, Nat.reduceEqDiff, Nat.reducePow, Int.reduceToNat, Int.reduceLT, Int.reduceLE, Int.reduceNeg, Int.reduceEq, Int.reducePow, reduceIte, reduceCtorEq, Int.reduceMul, Int.reduceAdd, Int.reduceSub, Int.reduceMod, Int.reduceDiv, Int.reduceTDiv, Int.reduceTMod, iter_s]
      exact ⟨_, rfl, by rw [show N.toNat - 1 = X.length by omega]; exact .sl kk ver (off + 1) (cap - 1) A hr (by omega) (by omega) hx2 hp⟩
end Go.Proofs.Ytjoldlaoncdcgaa
