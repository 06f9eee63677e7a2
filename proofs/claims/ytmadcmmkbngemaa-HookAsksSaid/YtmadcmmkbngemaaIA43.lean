/- A pixel is right, as the evaluator answers; and asking, as an answer that is given. -/
import Derived.Test.YtmadcmmkbngemaaC43
import Derived.Test.YtmadcmmkbngemaaHC43
import Derived.Test.YtmadcmmkbngemaaHD43
import Derived.Test.YtmadcmmkbngemaaHE43
import Derived.Test.YtmadcmmkbngemaaHF43
set_option linter.unusedSimpArgs false
set_option linter.unusedVariables false
set_option maxRecDepth 100000
set_option maxHeartbeats 4000000
namespace Go.Proofs.Ytmadcmmkbngemaa
open Go Go.RowKit
def sat (x : Int) : Int := if x < 0 then 0 else if 255 < x then 255 else x
theorem e26 (k : Nat) (x : Int) : evP (evF cm (k + 1)) 26 [.i x, .i 0, .i 255] = some (.i (sat x)) := by
  rw [evP_fun (m := c26) rfl _ _ rfl]
  by_cases h : x < 0
  · simp -implicitDefEqProofs only [c26, h, sat, push_cast, Nat.reduceAdd, Nat.reduceMul, Nat.reduceSub, Nat.reduceLT, Nat.reduceLeDiff, Nat.reduceEqDiff, Nat.reducePow, Int.reduceToNat, Int.reduceLT, Int.reduceLE, Int.reduceNeg, Int.reduceEq, Int.reducePow, reduceIte, reduceCtorEq, Int.reduceMul, Int.reduceAdd, Int.reduceSub, Int.reduceMod, Int.reduceDiv, Int.reduceTDiv, Int.reduceTMod, iter_s]
  · by_cases h2 : 255 < x
    · simp -implicitDefEqProofs only [c26, h, h2, sat, push_cast, Nat.reduceAdd, Nat.reduceMul, Nat.reduceSub, Nat.reduceLT, Nat.reduceLeDiff, Nat.reduceEqDiff, Nat.reducePow, Int.reduceToNat, Int.reduceLT, Int.reduceLE, Int.reduceNeg, Int.reduceEq, Int.reducePow, reduceIte, reduceCtorEq, Int.reduceMul, Int.reduceAdd, Int.reduceSub, Int.reduceMod, Int.reduceDiv, Int.reduceTDiv, Int.reduceTMod, iter_s]
    · simp -implicitDefEqProofs only [c26, h, h2, sat, push_cast, Nat.reduceAdd, Nat.reduceMul, Nat.reduceSub, Nat.reduceLT, Nat.reduceLeDiff, Nat.reduceEqDiff, Nat.reducePow, Int.reduceToNat, Int.reduceLT, Int.reduceLE, Int.reduceNeg, Int.reduceEq, Int.reducePow, reduceIte, reduceCtorEq, Int.reduceMul, Int.reduceAdd, Int.reduceSub, Int.reduceMod, Int.reduceDiv, Int.reduceTDiv, Int.reduceTMod, iter_s]
theorem e25 (k : Nat) (x a : Int) : evP (evF cm (k + 2)) 25 [.i x, .i a] = some (.i (sat x)) := by
  rw [evP_fun (m := c25) rfl _ _ rfl]
  simp -implicitDefEqProofs only [c25, e26, push_cast, Nat.reduceAdd, Nat.reduceMul, Nat.reduceSub, Nat.reduceLT, Nat.reduceLeDiff, Nat.reduceEqDiff, Nat.reducePow, Int.reduceToNat, Int.reduceLT, Int.reduceLE, Int.reduceNeg, Int.reduceEq, Int.reducePow, reduceIte, reduceCtorEq, Int.reduceMul, Int.reduceAdd, Int.reduceSub, Int.reduceMod, Int.reduceDiv, Int.reduceTDiv, Int.reduceTMod, iter_s]
theorem e24 (k : Nat) (r g b a r' g' b' a' : Int) : evP (evF cm (k + 3)) 24 [.agg [.i r, .i g, .i b, .i a], .agg [.i r', .i g', .i b', .i a'], .f 25 []] = some (.agg [.i (sat r), .i (sat g), .i (sat b), .i (sat a)]) := by
  rw [evP_fun (m := c24) rfl _ _ rfl]
  simp -implicitDefEqProofs only [c24, e25, push_cast, Nat.reduceAdd, Nat.reduceMul, Nat.reduceSub, Nat.reduceLT, Nat.reduceLeDiff, Nat.reduceEqDiff, Nat.reducePow, Int.reduceToNat, Int.reduceLT, Int.reduceLE, Int.reduceNeg, Int.reduceEq, Int.reducePow, reduceIte, reduceCtorEq, Int.reduceMul, Int.reduceAdd, Int.reduceSub, Int.reduceMod, Int.reduceDiv, Int.reduceTDiv, Int.reduceTMod, iter_s]
def ch (x : Int) : Prop := 0 ≤ x ∧ x ≤ 255
instance (x : Int) : Decidable (ch x) := inferInstanceAs (Decidable (0 ≤ x ∧ x ≤ 255))
def Rt (r g b a : Int) : Bool := decide (ch r) && (decide (ch g) && (decide (ch b) && decide (ch a)))
theorem sat_self (x : Int) : decide (x = sat x) = decide (ch x) := by
  rw [decide_eq_decide]; unfold sat ch; split <;> (try split) <;> omega
theorem e22 (k : Nat) (r g b a : Int) : evP (evF cm (k + 4)) 22 [.agg [.i r, .i g, .i b, .i a]] = some (.b (Rt r g b a)) := by
  rw [evP_fun (m := c22) rfl _ _ rfl]
  simp -implicitDefEqProofs only [c22, e24, sat_self, Rt, push_cast, Nat.reduceAdd, Nat.reduceMul, Nat.reduceSub, Nat.reduceLT, Nat.reduceLeDiff, Nat.reduceEqDiff, Nat.reducePow, Int.reduceToNat, Int.reduceLT, Int.reduceLE, Int.reduceNeg, Int.reduceEq, Int.reducePow, reduceIte, reduceCtorEq, Int.reduceMul, Int.reduceAdd, Int.reduceSub, Int.reduceMod, Int.reduceDiv, Int.reduceTDiv, Int.reduceTMod, iter_s]
def dp (x : Int) : Prop := 0 ≤ x ∧ x ≤ 65535
instance (x : Int) : Decidable (dp x) := inferInstanceAs (Decidable (0 ≤ x ∧ x ≤ 65535))
theorem e23 (k : Nat) (x : Int) : evP (evF cm (k + 1)) 23 [.i x] = some (.b (decide (dp x))) := by
  rw [evP_fun (m := c23) rfl _ _ rfl]
  simp -implicitDefEqProofs only [c23, push_cast, Nat.reduceAdd, Nat.reduceMul, Nat.reduceSub, Nat.reduceLT, Nat.reduceLeDiff, Nat.reduceEqDiff, Nat.reducePow, Int.reduceToNat, Int.reduceLT, Int.reduceLE, Int.reduceNeg, Int.reduceEq, Int.reducePow, reduceIte, reduceCtorEq, Int.reduceMul, Int.reduceAdd, Int.reduceSub, Int.reduceMod, Int.reduceDiv, Int.reduceTDiv, Int.reduceTMod, iter_s]
  by_cases h : 0 ≤ x <;> simp [h, dp]
def Rx (r g b a z s : Int) : Bool := Rt r g b a && (decide (dp z) && decide (ch s))
theorem e20 (k : Nat) (r g b a z s : Int) : evP (evF cm (k + 5)) 20 [.agg [.i r, .i g, .i b, .i a, .i z, .i s]] = some (.b (Rx r g b a z s)) := by
  rw [evP_fun (m := c20) rfl _ _ rfl]
  cases h1 : Rt r g b a with
  | false => simp -implicitDefEqProofs only [c20, e22, h1, Rx, Bool.false_and, push_cast, Nat.reduceAdd, Nat.reduceMul, Nat.reduceSub, Nat.reduceLT, Nat.reduceLeDiff, Nat.reduceEqDiff, Nat.reducePow, Int.reduceToNat, Int.reduceLT, Int.reduceLE, Int.reduceNeg, Int.reduceEq, Int.reducePow, reduceIte, reduceCtorEq, Int.reduceMul, Int.reduceAdd, Int.reduceSub, Int.reduceMod, Int.reduceDiv, Int.reduceTDiv, Int.reduceTMod, iter_s]
  | true =>
    by_cases h2 : dp z
    · by_cases h3 : 0 ≤ s
      · by_cases h4 : s ≤ 255
        · have h5 : ch s := ⟨h3, h4⟩
          simp -implicitDefEqProofs only [c20, e22, e23, h1, h2, h3, h4, h5, Rx, decide_true, push_cast, Nat.reduceAdd, Nat.reduceMul, Nat.reduceSub, Nat.reduceLT, Nat.reduceLeDiff, Nat.reduceEqDiff, Nat.reducePow, Int.reduceToNat, Int.reduceLT, Int.reduceLE, Int.reduceNeg, Int.reduceEq, Int.reducePow, reduceIte, reduceCtorEq, Int.reduceMul, Int.reduceAdd, Int.reduceSub, Int.reduceMod, Int.reduceDiv, Int.reduceTDiv, Int.reduceTMod, iter_s]
        · have h5 : ¬ ch s := fun h => h4 h.2
          simp -implicitDefEqProofs only [c20, e22, e23, h1, h2, h3, h4, h5, Rx, decide_true, decide_false, push_cast, Nat.reduceAdd, Nat.reduceMul, Nat.reduceSub, Nat.reduceLT, Nat.reduceLeDiff, Nat.reduceEqDiff, Nat.reducePow, Int.reduceToNat, Int.reduceLT, Int.reduceLE, Int.reduceNeg, Int.reduceEq, Int.reducePow, reduceIte, reduceCtorEq, Int.reduceMul, Int.reduceAdd, Int.reduceSub, Int.reduceMod, Int.reduceDiv, Int.reduceTDiv, Int.reduceTMod, iter_s]
      · have h5 : ¬ ch s := fun h => h3 h.1
        simp -implicitDefEqProofs only [c20, e22, e23, h1, h2, h3, h5, Rx, decide_true, decide_false, push_cast, Nat.reduceAdd, Nat.reduceMul, Nat.reduceSub, Nat.reduceLT, Nat.reduceLeDiff, Nat.reduceEqDiff, Nat.reducePow, Int.reduceToNat, Int.reduceLT, Int.reduceLE, Int.reduceNeg, Int.reduceEq, Int.reducePow, reduceIte, reduceCtorEq, Int.reduceMul, Int.reduceAdd, Int.reduceSub, Int.reduceMod, Int.reduceDiv, Int.reduceTDiv, Int.reduceTMod, iter_s]
    · simp -implicitDefEqProofs only [c20, e22, e23, h1, h2, Rx, decide_false, Bool.false_and, push_cast, Nat.reduceAdd, Nat.reduceMul, Nat.reduceSub, Nat.reduceLT, Nat.reduceLeDiff, Nat.reduceEqDiff, Nat.reducePow, Int.reduceToNat, Int.reduceLT, Int.reduceLE, Int.reduceNeg, Int.reduceEq, Int.reducePow, reduceIte, reduceCtorEq, Int.reduceMul, Int.reduceAdd, Int.reduceSub, Int.reduceMod, Int.reduceDiv, Int.reduceTDiv, Int.reduceTMod, iter_s]
theorem ev_bool {cal : Callee} {g : FuncId} {args : List LV} {b : Bool} (h : evP cal g args = some (.v (.bool b))) : ∃ h', cal g args [] 0 = some (.v (.bool b), h') := by
  unfold evP at h
  split at h
  · rename_i r h' hr
    split at h
    · rename_i hc
      simp only [Option.some.injEq] at h
      refine ⟨h', ?_⟩
      rw [hr]
      cases r <;> simp only [frz] at h <;> first
        | (simp at h; done)
        | (simp at h; subst h; rfl)
        | (split at h <;> try (split at h)
           all_goals simp at h)
    · simp at h
  · simp at h
theorem conc_ints (C : Cx) (l : List Int) : ∀ (i : Nat) c u, (l.map LV.i)[i]? = some c → (l.map fun n => Value.int .i64 n)[i]? = some u → Conc C c u := by
  intro i c u h1 h2
  rw [List.getElem?_map] at h1 h2
  cases hl : l[i]? with
  | none => rw [hl] at h1; simp at h1
  | some n =>
    rw [hl] at h1 h2
    simp only [Option.map_some, Option.some.injEq] at h1 h2
    subst h1; subst h2; exact .v _
/-- frag.Right, called. -/
theorem right_calls (r g b a z s : Int) (w : World) : Calls Try.prog 20 #[.agg #[.int .i64 r, .int .i64 g, .int .i64 b, .int .i64 a, .int .i64 z, .int .i64 s]] w fun e w' => e = .returned (.bool (Rx r g b a z s)) ∧ Below w.heap.size w w' := by
  obtain ⟨h', he⟩ := ev_bool (e20 0 r g b a z s)
  have hc : ConcL ⟨[], [], fun _ => False, w⟩ [.agg [.i r, .i g, .i b, .i a, .i z, .i s]] [.agg #[.int .i64 r, .int .i64 g, .int .i64 b, .int .i64 a, .int .i64 z, .int .i64 s]] := by
    refine ⟨rfl, fun i c u h1 h2 => ?_⟩
    match i with
    | 0 =>
      simp only [List.getElem?_cons_zero, Option.some.injEq] at h1 h2
      subst h1; subst h2
      exact .agg rfl (conc_ints _ [r, g, b, a, z, s])
    | i + 1 => simp at h1
  refine (calls_of_ev hcm (by kernel_rfl) he rfl w hc).mono ?_
  rintro e w' ⟨u, rfl, hu, hb⟩
  refine ⟨?_, hb⟩
  cases hu ⟨[], [], fun _ => False, w⟩
  rfl
theorem ask_nil (r g b a z s : Int) (w : World) :
    Calls Try.prog 11 #[.nilIface, .agg #[.int .i64 r, .int .i64 g, .int .i64 b, .int .i64 a, .int .i64 z, .int .i64 s], .agg #[.int .i64 0, .int .i64 0, .int .i64 0, .int .i64 0, .int .i64 0]] w fun e w' => e = .returned (.tuple #[.agg #[.int .i64 0, .int .i64 0, .int .i64 0, .int .i64 0, .int .i64 0, .int .i64 0], .int .i64 1]) ∧ Below w.heap.size w w' := by
  go_enter_defers Try.func11, Try.ntmps11
  go_wp2
  simp [bodyPostD, Leaves, results, Try.results11, Try.f11, go_sem]
  exact ((((Below.refl _ _).alloc (Nat.le_refl _) _).alloc (by simp) _).alloc (by first | (simp; done) | (simp; omega)) _).alloc (by first | (simp; done) | (simp; omega)) _
end Go.Proofs.Ytmadcmmkbngemaa
