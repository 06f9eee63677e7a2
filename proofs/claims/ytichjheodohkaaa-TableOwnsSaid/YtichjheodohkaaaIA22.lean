/- What is awake of a table, as an answer that is given. -/
import Derived.Test.YtichjheodohkaaaHA22
import Derived.Test.YtichjheodohkaaaC22
set_option linter.unusedSimpArgs false
set_option linter.unusedVariables false
set_option maxRecDepth 100000
set_option maxHeartbeats 4000000
namespace Go.Proofs.Ytichjheodohkaaa
open Go Go.RowKit
theorem clone_ev : evF cm 10 26 [.im [.i 1, .i 2] 2 false] [] 0 = some (.sl 0 0 0 2 1 2, [⟨0, [.i 1, .i 2]⟩]) := by
  kernel_rfl
theorem clone_c : CloneC := by
  intro b o c w hc hx
  have hmo : Try.prog.follows .mixedOrders = true := by kernel_rfl
  have ha : ConcL ⟨[], [], fun _ => False, w⟩ [.im [.i 1, .i 2] 2 false] [.slice (some ⟨b, o, none⟩) 2 c] := by
    refine ⟨rfl, fun i cc u h1 h2 => ?_⟩
    match i with
    | 0 =>
      simp at h1 h2; subst h1; subst h2
      refine Conc.im (fun j => if j = 0 then .int .i64 1 else .int .i64 2) hc (by simp) (fun j e he => ⟨?_, fun h => h, ?_⟩) (fun j e he => ?_)
      · rintro ⟨k, o2, h⟩; simp at h
      · match j with
        | 0 => exact hx.1
        | 1 => exact hx.2.1
        | j + 2 => simp at he
      · match j with
        | 0 => simp at he; subst he; exact .v _
        | 1 => simp at he; subst he; exact .v _
        | j + 2 => simp at he
    | i + 1 => simp at h1
  refine (((evF_ok hcm hmo 10) 26 _ [] 0 _ _ clone_ev).2 ⟨[], [], fun _ => False, w⟩ w.heap.size _ ha (Rel.empty _ _ fun _ h => h.elim)).mono ?_
  rintro e w' ⟨C', u, rfl, rfl, x1, x2, x3, _⟩
  refine ⟨?_, x3.below⟩
  cases x1 with
  | sl h1 h2 h3 h4 =>
    rename_i bb oo cc
    obtain ⟨hB, us, t, g1, g2, g3⟩ := x2.row 0 bb oo _ h1 rfl
    obtain ⟨u0, a1, a2⟩ := g3 0 _ rfl
    obtain ⟨u1, b1, b2⟩ := g3 1 _ rfl
    have e0 := Conc.v_inv a2
    have e1 := Conc.v_inv b2
    subst e0; subst e1
    refine ⟨bb, oo + 0, cc, by omega, rfl, ?_, ?_, (Array.getElem?_eq_some_iff.1 g1).1⟩
    · unfold World.cell?
      simp [g1]; simpa using a1
    · unfold World.cell?
      simp [g1]; simpa using b1
  | slOld h1 h2 =>
    have := x2.vs
    rw [this] at h1
    simp at h1
    omega
/-- A call that turns nothing, as an answer. -/
theorem orc_of {C : Cx} {B : Nat} {h : List Row} {lim : Nat} {g : FuncId} {args : Array Value} {r : LV} {v : Value} (hr : Rel C B h) (hk : Calls Try.prog g args C.w fun e w' => e = .returned v ∧ Below C.w.heap.size C.w w') (hc : ∀ w', Conc { C with w := w' } r v) :
    Calls Try.prog g args C.w (fun e w' => ∃ C' u, C'.w = w' ∧ e = .returned u ∧ Conc C' r u ∧ Rel C' B h ∧ Le B C C' ∧ Fr lim C C') :=
  hk.mono fun e w' ⟨h1, h2⟩ => ⟨{ C with w := w' }, v, rfl, h1, hc w', hr.grow h2, Le.grow hr.size h2, Fr.grow rfl h2⟩
def awO : List LV → List Row → Nat → Option (LV × List Row)
  | [], h, _ => some (.b true, h)
  | _ :: _, _, _ => none
theorem awO_ok : OrcOk Try.prog 6 awO := by
  intro args h lim x h' hf
  refine ⟨⟨Try.f6, Try.func6, rfl, by decide⟩, fun C B us hc hr => ?_⟩
  cases args with
  | nil =>
    simp only [awO, Option.some.injEq, Prod.mk.injEq] at hf
    obtain ⟨rfl, rfl⟩ := hf
    have hu : us = [] := by
      have := hc.1
      cases us with
      | nil => rfl
      | cons _ _ => simp at this
    subst hu
    exact orc_of hr (awake_c clone_c C.w) fun w' => .v _
  | cons _ _ => cases hf
/-- The table with it. -/
def cm2 (g : FuncId) : Option ME := if g = 6 then some (.o awO) else cm g
theorem hcm2 : ∀ g m, cm2 g = some m → Good Try.prog g m := by
  intro g m h
  unfold cm2 at h
  split at h
  · rename_i e
    subst e
    simp only [Option.some.injEq] at h
    subst h
    exact awO_ok
  · exact hcm g m h
theorem e6 (k : Nat) : evP (evF cm2 (k + 1)) 6 [] = some (.b true) := rfl
theorem e5 (k : Nat) (h : Int) : evP (evF cm2 (k + 100)) 5 [.i h] = some (.b true) := by
  have a8 : ∀ k x, evP (evF cm2 (k + 1)) 8 [.v (.pointer none), .i h, x] = some (.i 1) := fun k x => by
    rw [evP_fun (m := c8) rfl _ _ rfl]
    simp -implicitDefEqProofs only [c8, push_cast, Nat.reduceAdd, Nat.reduceMul, Nat.reduceSub, Nat.reduceLT, Nat.reduceLeDiff, Nat.reduceEqDiff, Nat.reducePow, Int.reduceToNat, Int.reduceLT, Int.reduceLE, Int.reduceNeg, Int.reduceEq, Int.reducePow, reduceIte, reduceCtorEq, Int.reduceMul, Int.reduceAdd, Int.reduceSub, Int.reduceMod, Int.reduceDiv, Int.reduceTDiv, Int.reduceTMod, iter_s]
  have a9 : ∀ k, evP (evF cm2 (k + 2)) 9 [.v (.pointer none), .i h] = some (.tup [.nils, .i 1]) := fun k => by
    have a24 : ∀ k, evP (evF cm2 (k + 1)) 24 [.v (.pointer none), .i h] = some (.i 1) := fun k => by
      rw [evP_fun (m := c24) rfl _ _ rfl]
      simp -implicitDefEqProofs only [c24, push_cast, Nat.reduceAdd, Nat.reduceMul, Nat.reduceSub, Nat.reduceLT, Nat.reduceLeDiff, Nat.reduceEqDiff, Nat.reducePow, Int.reduceToNat, Int.reduceLT, Int.reduceLE, Int.reduceNeg, Int.reduceEq, Int.reducePow, reduceIte, reduceCtorEq, Int.reduceMul, Int.reduceAdd, Int.reduceSub, Int.reduceMod, Int.reduceDiv, Int.reduceTDiv, Int.reduceTMod, iter_s]
    rw [evP_fun (m := c9) rfl _ _ rfl]
    simp -implicitDefEqProofs only [c9, a24, push_cast, Nat.reduceAdd, Nat.reduceMul, Nat.reduceSub, Nat.reduceLT, Nat.reduceLeDiff, Nat.reduceEqDiff, Nat.reducePow, Int.reduceToNat, Int.reduceLT, Int.reduceLE, Int.reduceNeg, Int.reduceEq, Int.reducePow, reduceIte, reduceCtorEq, Int.reduceMul, Int.reduceAdd, Int.reduceSub, Int.reduceMod, Int.reduceDiv, Int.reduceTDiv, Int.reduceTMod, iter_s]
  have a10 : ∀ k, evP (evF cm2 (k + 2)) 10 [.v (.pointer none), .i h] = some (.tup [.nils, .i 1]) := fun k => by
    have a24 : ∀ k, evP (evF cm2 (k + 1)) 24 [.v (.pointer none), .i h] = some (.i 1) := fun k => by
      rw [evP_fun (m := c24) rfl _ _ rfl]
      simp -implicitDefEqProofs only [c24, push_cast, Nat.reduceAdd, Nat.reduceMul, Nat.reduceSub, Nat.reduceLT, Nat.reduceLeDiff, Nat.reduceEqDiff, Nat.reducePow, Int.reduceToNat, Int.reduceLT, Int.reduceLE, Int.reduceNeg, Int.reduceEq, Int.reducePow, reduceIte, reduceCtorEq, Int.reduceMul, Int.reduceAdd, Int.reduceSub, Int.reduceMod, Int.reduceDiv, Int.reduceTDiv, Int.reduceTMod, iter_s]
    rw [evP_fun (m := c10) rfl _ _ rfl]
    simp -implicitDefEqProofs only [c10, a24, push_cast, Nat.reduceAdd, Nat.reduceMul, Nat.reduceSub, Nat.reduceLT, Nat.reduceLeDiff, Nat.reduceEqDiff, Nat.reducePow, Int.reduceToNat, Int.reduceLT, Int.reduceLE, Int.reduceNeg, Int.reduceEq, Int.reducePow, reduceIte, reduceCtorEq, Int.reduceMul, Int.reduceAdd, Int.reduceSub, Int.reduceMod, Int.reduceDiv, Int.reduceTDiv, Int.reduceTMod, iter_s]
  have a20 : ∀ k, evP (evF cm2 (k + 2)) 20 [.v (.pointer none), .i h] = some (.tup [.agg [.i 0, .i 0, .nils], .i 1]) := fun k => by
    have a24 : ∀ k, evP (evF cm2 (k + 1)) 24 [.v (.pointer none), .i h] = some (.i 1) := fun k => by
      rw [evP_fun (m := c24) rfl _ _ rfl]
      simp -implicitDefEqProofs only [c24, push_cast, Nat.reduceAdd, Nat.reduceMul, Nat.reduceSub, Nat.reduceLT, Nat.reduceLeDiff, Nat.reduceEqDiff, Nat.reducePow, Int.reduceToNat, Int.reduceLT, Int.reduceLE, Int.reduceNeg, Int.reduceEq, Int.reducePow, reduceIte, reduceCtorEq, Int.reduceMul, Int.reduceAdd, Int.reduceSub, Int.reduceMod, Int.reduceDiv, Int.reduceTDiv, Int.reduceTMod, iter_s]
    rw [evP_fun (m := c20) rfl _ _ rfl]
    simp -implicitDefEqProofs only [c20, a24, push_cast, Nat.reduceAdd, Nat.reduceMul, Nat.reduceSub, Nat.reduceLT, Nat.reduceLeDiff, Nat.reduceEqDiff, Nat.reducePow, Int.reduceToNat, Int.reduceLT, Int.reduceLE, Int.reduceNeg, Int.reduceEq, Int.reducePow, reduceIte, reduceCtorEq, Int.reduceMul, Int.reduceAdd, Int.reduceSub, Int.reduceMod, Int.reduceDiv, Int.reduceTDiv, Int.reduceTMod, iter_s]
  have a21 : ∀ k, evP (evF cm2 (k + 1)) 21 [.v (.pointer none), .i h] = some (.i 1) := fun k => by
    rw [evP_fun (m := c21) rfl _ _ rfl]
    simp -implicitDefEqProofs only [c21, push_cast, Nat.reduceAdd, Nat.reduceMul, Nat.reduceSub, Nat.reduceLT, Nat.reduceLeDiff, Nat.reduceEqDiff, Nat.reducePow, Int.reduceToNat, Int.reduceLT, Int.reduceLE, Int.reduceNeg, Int.reduceEq, Int.reducePow, reduceIte, reduceCtorEq, Int.reduceMul, Int.reduceAdd, Int.reduceSub, Int.reduceMod, Int.reduceDiv, Int.reduceTDiv, Int.reduceTMod, iter_s]
  have a22 : ∀ k, evP (evF cm2 (k + 1)) 22 [.v (.pointer none), .i h] = some (.i 0) := fun k => by
    rw [evP_fun (m := c22) rfl _ _ rfl]
    simp -implicitDefEqProofs only [c22, push_cast, Nat.reduceAdd, Nat.reduceMul, Nat.reduceSub, Nat.reduceLT, Nat.reduceLeDiff, Nat.reduceEqDiff, Nat.reducePow, Int.reduceToNat, Int.reduceLT, Int.reduceLE, Int.reduceNeg, Int.reduceEq, Int.reducePow, reduceIte, reduceCtorEq, Int.reduceMul, Int.reduceAdd, Int.reduceSub, Int.reduceMod, Int.reduceDiv, Int.reduceTDiv, Int.reduceTMod, iter_s]
  have a18 : ∀ k, evP (evF cm2 (k + 1)) 18 [.v (.pointer none)] = some .nils := fun k => by
    rw [evP_fun (m := c18) rfl _ _ rfl]
    simp -implicitDefEqProofs only [c18, push_cast, Nat.reduceAdd, Nat.reduceMul, Nat.reduceSub, Nat.reduceLT, Nat.reduceLeDiff, Nat.reduceEqDiff, Nat.reducePow, Int.reduceToNat, Int.reduceLT, Int.reduceLE, Int.reduceNeg, Int.reduceEq, Int.reducePow, reduceIte, reduceCtorEq, Int.reduceMul, Int.reduceAdd, Int.reduceSub, Int.reduceMod, Int.reduceDiv, Int.reduceTDiv, Int.reduceTMod, iter_s]
  rw [evP_fun (m := c5) rfl _ _ rfl]
  simp -implicitDefEqProofs only [c5, a8, a9, a10, a20, a21, a22, a18, e6, push_cast, Nat.reduceAdd, Nat.reduceMul, Nat.reduceSub, Nat.reduceLT, Nat.reduceLeDiff, Nat.reduceEqDiff, Nat.reducePow, Int.reduceToNat, Int.reduceLT, Int.reduceLE, Int.reduceNeg, Int.reduceEq, Int.reducePow, reduceIte, reduceCtorEq, Int.reduceMul, Int.reduceAdd, Int.reduceSub, Int.reduceMod, Int.reduceDiv, Int.reduceTDiv, Int.reduceTMod, iter_s]
end Go.Proofs.Ytichjheodohkaaa
