/- A crew is made, as the evaluator answers: a worker pops first. -/
import Derived.Test.YtnnpkpceodpfhaaMN
import Derived.Test.YtnnpkpceodpfhaaMS
set_option linter.unusedSimpArgs false
set_option linter.unusedVariables false
set_option linter.unusedSectionVars false
set_option maxRecDepth 100000
set_option maxHeartbeats 16000000
namespace Go.Proofs.Ytnnpkpceodpfhaa
open Go
theorem evX_P {k : Nat} {g : FuncId} {ar : List LV} (hs : isS cm g = true) : evP (evF cm k) g ar = none := by unfold evP; rw [evX_none hs]
theorem evX_N {k lim : Nat} {g : FuncId} {ar : List LV} (hs : isS cm g = true) : evF cm k g ar [] lim = none := evX_none hs _ _ _
/-- A crew's cells, a worker's, a pop's. -/
def crewC (rm rr : Nat) (k t f : Int) (ds ws fr : LV) : List LV := [.p rm 0 0, .p rr 0 0, .i k, .i t, .i f, ds, ws, fr, .v .nilFunc]
def workC (rc : Nat) (i : Int) (d op : LV) : List LV := [.p rc 0 0, .i i, d, op, .v (.pointer none), .i 0, .i 0, .i 0, .i 0, .nils, .b false]
def popC (a c : Int) : List LV := [.i a, .i c, .f 37 [], .i 0, .b true, .i 0, .i 0, .i 0]
theorem dpop_mk (k : Nat) (h : List Row) (hn : h.isEmpty = false) (a c : Int) : evF cm (k + 1) 30 [.agg [.i a, .i c]] h 0 = some (.p (h.length + 1) 0 0, h ++ [⟨0, [.i a, .i c]⟩, ⟨0, popC a c⟩]) := by
  have r1 : ∀ x : Row, rowOf (h ++ [x]) h.length 0 = rowOf [x] 0 0 := fun x => by obtain ⟨v, cs⟩ := x; unfold rowOf; rw [List.getElem?_append_right (Nat.le_refl _)]; simp
  rw [evX_fun (m := c30) rfl _ _ _ _ hn rfl]
  simp -implicitDefEqProofs only [c30, r1, popC, push_cast, Nat.reduceAdd, Nat.reduceMul, Nat.reduceSub, Nat.reduceLT, Nat.reduceLeDiff, Nat.reduceEqDiff, Nat.reducePow, Int.reduceToNat, Int.reduceLT, Int.reduceLE, Int.reduceNeg, Int.reduceEq, Int.reducePow, reduceIte, reduceCtorEq, Int.reduceMul, Int.reduceAdd, Int.reduceSub, Int.reduceMod, Int.reduceDiv, Int.reduceTDiv, Int.reduceTMod, iter_s]
  rw [List.length_append, List.append_assoc]; rfl
theorem wpop_ok (k : Nat) (h : List Row) (rw' rc rd rm rr v n cap i : Nat) (kk t f a c : Int) (d op ws fr : LV) (ds : List LV) (hi : i < n) (h1 : rowOf h rw' 0 = some (workC rc i d op)) (h2 : rowOf h rc 0 = some (crewC rm rr kk t f (.sl rd v 0 n 2 cap) ws fr)) (h3 : rowOf h rd v = some ds)
    (e1 : i * 2 + 2 ≤ ds.length) (e2 : (ds.drop (i * 2)).take 2 = [.i a, .i c]) :
    evF cm (k + 3) 22 [.p rw' 0 0] h 0 = some (.tup [], (h ++ [(⟨0, [.i a, .i c]⟩ : Row), (⟨0, popC a c⟩ : Row)]).set rw' ⟨0, workC rc i (.f 31 []) (.p (h.length + 1) 0 0)⟩) := by
  have hne0 : h.isEmpty = false := by have := rowOf_lt h1; cases h with | nil => simp at this | cons _ _ => rfl
  have hl := rowOf_lt h1
  have e3 := fun k => dpop_mk k h hne0 a c
  have g1 : (i : Int) < (n : Int) := by omega
  have g2 : (0 : Int) ≤ (i : Int) := by omega
  have q1 : ∀ x y : Row, rowOf (h ++ [x, y]) rw' 0 = rowOf h rw' 0 := fun x y => rowOf_app_lt hl
  have q2 : ∀ (x y : Row) cs, rowOf ((h ++ [x, y]).set rw' ⟨0, cs⟩) rw' 0 = some cs := fun x y cs => rowOf_set_eq (by simp; omega)
  unfold workC at h1 ⊢
  unfold crewC at h2
  rw [evX_fun (m := c22) rfl _ _ _ _ hne0 rfl]
  simp -implicitDefEqProofs only [c22, h1, h2, h3, e1, e2, e3, g1, g2, q1, q2, List.set_set, evX_P, evX_N, push_cast, Nat.reduceAdd, Nat.reduceMul, Nat.reduceSub, Nat.reduceLT, Nat.reduceLeDiff, Nat.reduceEqDiff, Nat.reducePow, Int.reduceToNat, Int.reduceLT, Int.reduceLE, Int.reduceNeg, Int.reduceEq, Int.reducePow, reduceIte, reduceCtorEq, Int.reduceMul, Int.reduceAdd, Int.reduceSub, Int.reduceMod, Int.reduceDiv, Int.reduceTDiv, Int.reduceTMod, iter_s]
end Go.Proofs.Ytnnpkpceodpfhaa
