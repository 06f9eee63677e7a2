/- Things are told by their types (HookNone, HookAsks), as the evaluator answers. -/
import Derived.Test.YtmadcmmkbngemaaLA43
set_option linter.unusedSimpArgs false
set_option linter.unusedVariables false
set_option maxRecDepth 100000
set_option maxHeartbeats 8000000
namespace Go.Proofs.Ytmadcmmkbngemaa
open Go
theorem str_p : strE [112] = ⟨#[112]⟩ := rfl
theorem str_c : strE [99] = ⟨#[99]⟩ := rfl
theorem str_n : strE [110] = ⟨#[110]⟩ := rfl
theorem str_5 : strE [112, 99, 110, 120, 120] = ⟨#[112, 99, 110, 120, 120]⟩ := rfl
theorem e12_0 (k : Nat) : evP (evF cm2 (k + 20)) 12 [.v (.slice none 0 0)] = some (.v (.string ⟨#[]⟩)) := by
  rw [evP_fun (m := c12) rfl _ _ rfl]
  simp -implicitDefEqProofs only [c12, c12b0, push_cast, Nat.reduceAdd, Nat.reduceMul, Nat.reduceSub, Nat.reduceLT, Nat.reduceLeDiff, Nat.reduceEqDiff, Nat.reducePow, Int.reduceToNat, Int.reduceLT, Int.reduceLE, Int.reduceNeg, Int.reduceEq, Int.reducePow, reduceIte, reduceCtorEq, Int.reduceMul, Int.reduceAdd, Int.reduceSub, Int.reduceMod, Int.reduceDiv, Int.reduceTDiv, Int.reduceTMod, iter_s]
theorem e12_p (k : Nat) (r g b a z s : Int) (f : Bool) : evP (evF cm2 (k + 20)) 12 [.im [.ifc 26 (px r g b a z s)] 1 f] = some (.v (.string ⟨#[112]⟩)) := by
  unfold px
  rw [evP_fun (m := c12) rfl _ _ rfl]
  simp -implicitDefEqProofs only [c12, c12b0, str_p, push_cast, Nat.reduceAdd, Nat.reduceMul, Nat.reduceSub, Nat.reduceLT, Nat.reduceLeDiff, Nat.reduceEqDiff, Nat.reducePow, Int.reduceToNat, Int.reduceLT, Int.reduceLE, Int.reduceNeg, Int.reduceEq, Int.reducePow, reduceIte, reduceCtorEq, Int.reduceMul, Int.reduceAdd, Int.reduceSub, Int.reduceMod, Int.reduceDiv, Int.reduceTDiv, Int.reduceTMod, iter_s]
theorem e12_c (k : Nat) (r g b a : Int) (f : Bool) : evP (evF cm2 (k + 20)) 12 [.im [.ifc 24 (.agg [.i r, .i g, .i b, .i a])] 1 f] = some (.v (.string ⟨#[99]⟩)) := by
  rw [evP_fun (m := c12) rfl _ _ rfl]
  simp -implicitDefEqProofs only [c12, c12b0, str_c, push_cast, Nat.reduceAdd, Nat.reduceMul, Nat.reduceSub, Nat.reduceLT, Nat.reduceLeDiff, Nat.reduceEqDiff, Nat.reducePow, Int.reduceToNat, Int.reduceLT, Int.reduceLE, Int.reduceNeg, Int.reduceEq, Int.reducePow, reduceIte, reduceCtorEq, Int.reduceMul, Int.reduceAdd, Int.reduceSub, Int.reduceMod, Int.reduceDiv, Int.reduceTDiv, Int.reduceTMod, iter_s]
theorem e12_n (k : Nat) (n : Int) (f : Bool) : evP (evF cm2 (k + 20)) 12 [.im [.ifc 3 (.i n)] 1 f] = some (.v (.string ⟨#[110]⟩)) := by
  rw [evP_fun (m := c12) rfl _ _ rfl]
  simp -implicitDefEqProofs only [c12, c12b0, str_n, push_cast, Nat.reduceAdd, Nat.reduceMul, Nat.reduceSub, Nat.reduceLT, Nat.reduceLeDiff, Nat.reduceEqDiff, Nat.reducePow, Int.reduceToNat, Int.reduceLT, Int.reduceLE, Int.reduceNeg, Int.reduceEq, Int.reducePow, reduceIte, reduceCtorEq, Int.reduceMul, Int.reduceAdd, Int.reduceSub, Int.reduceMod, Int.reduceDiv, Int.reduceTDiv, Int.reduceTMod, iter_s]
theorem e12_5 (k : Nat) (r g b a z s n : Int) (x : ByteArray) (f : Bool) : evP (evF cm2 (k + 20)) 12 [.im [.ifc 26 (px r g b a z s), .ifc 24 (.agg [.i r, .i g, .i b, .i a]), .ifc 3 (.i n), .ifc 9 (.v (.string x)), .v .nilIface] 5 f] = some (.v (.string ⟨#[112, 99, 110, 120, 120]⟩)) := by
  unfold px
  rw [evP_fun (m := c12) rfl _ _ rfl]
  simp -implicitDefEqProofs only [c12, c12b0, str_5, push_cast, Nat.reduceAdd, Nat.reduceMul, Nat.reduceSub, Nat.reduceLT, Nat.reduceLeDiff, Nat.reduceEqDiff, Nat.reducePow, Int.reduceToNat, Int.reduceLT, Int.reduceLE, Int.reduceNeg, Int.reduceEq, Int.reducePow, reduceIte, reduceCtorEq, Int.reduceMul, Int.reduceAdd, Int.reduceSub, Int.reduceMod, Int.reduceDiv, Int.reduceTDiv, Int.reduceTMod, iter_s]
theorem e11n (k : Nat) (r g b a z s : Int) : evP (evF cm2 (k + 1)) 11 [.v .nilIface, px r g b a z s, fr0] = some (.tup [px 0 0 0 0 0 0, .i 1]) := by
  have e : evF cm2 (k + 1) 11 [.v .nilIface, px r g b a z s, fr0] [] 0 = some (.tup [px 0 0 0 0 0 0, .i 1], []) := rfl
  unfold evP
  rw [e]
  simp [px, frz, frzL, closed, closedL]
theorem e5 (k : Nat) (r g b a z s n : Int) (x : ByteArray) : evP (evF cm2 (k + 400)) 5 [px r g b a z s, .i n, .v (.string x)] = some (.b true) := by
  have ea := fun k => e11n k r g b a z s
  have e6' := e6 (k + 299)
  have e5' := fun k f => e12_5 k r g b a z s n x f
  unfold px at e5' ea
  unfold fr0 at ea
  unfold px
  rw [evP_fun (m := c5) rfl _ _ rfl]
  have b1 : ((⟨#[112, 99, 110, 120, 120]⟩ : ByteArray) == ⟨#[112, 99, 110, 120, 120]⟩) = true := rfl
  have b2 : ((⟨#[]⟩ : ByteArray) == ⟨#[]⟩) = true := rfl
  simp -implicitDefEqProofs only [c5, ea, e12_0, e5', e6', b1, b2, eq_self, push_cast, Nat.reduceAdd, Nat.reduceMul, Nat.reduceSub, Nat.reduceLT, Nat.reduceLeDiff, Nat.reduceEqDiff, Nat.reducePow, Int.reduceToNat, Int.reduceLT, Int.reduceLE, Int.reduceNeg, Int.reduceEq, Int.reducePow, reduceIte, reduceCtorEq, Int.reduceMul, Int.reduceAdd, Int.reduceSub, Int.reduceMod, Int.reduceDiv, Int.reduceTDiv, Int.reduceTMod, iter_s]
section
variable {n r g b a z s : Int}
theorem e14_0 (k : Nat) : evP (evF cm2 (k + 2)) 14 [px r g b a z s, fr0, .pi [.i 0], .pi [.i n]] = some (.ifc 26 (px r g b a n s)) := by
  unfold px fr0
  rw [evP_fun (m := c14) rfl _ _ rfl]
  simp -implicitDefEqProofs only [c14, push_cast, Nat.reduceAdd, Nat.reduceMul, Nat.reduceSub, Nat.reduceLT, Nat.reduceLeDiff, Nat.reduceEqDiff, Nat.reducePow, Int.reduceToNat, Int.reduceLT, Int.reduceLE, Int.reduceNeg, Int.reduceEq, Int.reducePow, reduceIte, reduceCtorEq, Int.reduceMul, Int.reduceAdd, Int.reduceSub, Int.reduceMod, Int.reduceDiv, Int.reduceTDiv, Int.reduceTMod, iter_s]
theorem e14_1 (k : Nat) : evP (evF cm2 (k + 2)) 14 [px r g b a z s, fr0, .pi [.i 1], .pi [.i n]] = some (.ifc 24 (.agg [.i n, .i 0, .i 0, .i 0])) := by
  unfold px fr0
  rw [evP_fun (m := c14) rfl _ _ rfl]
  simp -implicitDefEqProofs only [c14, push_cast, Nat.reduceAdd, Nat.reduceMul, Nat.reduceSub, Nat.reduceLT, Nat.reduceLeDiff, Nat.reduceEqDiff, Nat.reducePow, Int.reduceToNat, Int.reduceLT, Int.reduceLE, Int.reduceNeg, Int.reduceEq, Int.reducePow, reduceIte, reduceCtorEq, Int.reduceMul, Int.reduceAdd, Int.reduceSub, Int.reduceMod, Int.reduceDiv, Int.reduceTDiv, Int.reduceTMod, iter_s]
theorem e14_2 (k : Nat) : evP (evF cm2 (k + 2)) 14 [px r g b a z s, fr0, .pi [.i 2], .pi [.i n]] = some (.ifc 3 (.i n)) := by
  unfold px fr0
  rw [evP_fun (m := c14) rfl _ _ rfl]
  simp -implicitDefEqProofs only [c14, push_cast, Nat.reduceAdd, Nat.reduceMul, Nat.reduceSub, Nat.reduceLT, Nat.reduceLeDiff, Nat.reduceEqDiff, Nat.reducePow, Int.reduceToNat, Int.reduceLT, Int.reduceLE, Int.reduceNeg, Int.reduceEq, Int.reducePow, reduceIte, reduceCtorEq, Int.reduceMul, Int.reduceAdd, Int.reduceSub, Int.reduceMod, Int.reduceDiv, Int.reduceTDiv, Int.reduceTMod, iter_s]
theorem e13_0 (k : Nat) : evP (evF cm2 (k + 3)) 13 [sh 0 n, px r g b a z s, fr0] = some (.ifc 26 (px r g b a n s)) := by
  have e := fun k => e14_0 k (n := n) (r := r) (g := g) (b := b) (a := a) (z := z) (s := s)
  unfold px fr0 at e
  unfold sh px fr0
  rw [evP_fun (m := c13) rfl _ _ rfl]
  simp -implicitDefEqProofs only [c13, e, push_cast, Nat.reduceAdd, Nat.reduceMul, Nat.reduceSub, Nat.reduceLT, Nat.reduceLeDiff, Nat.reduceEqDiff, Nat.reducePow, Int.reduceToNat, Int.reduceLT, Int.reduceLE, Int.reduceNeg, Int.reduceEq, Int.reducePow, reduceIte, reduceCtorEq, Int.reduceMul, Int.reduceAdd, Int.reduceSub, Int.reduceMod, Int.reduceDiv, Int.reduceTDiv, Int.reduceTMod, iter_s]
theorem e13_1 (k : Nat) : evP (evF cm2 (k + 3)) 13 [sh 1 n, px r g b a z s, fr0] = some (.ifc 24 (.agg [.i n, .i 0, .i 0, .i 0])) := by
  have e := fun k => e14_1 k (n := n) (r := r) (g := g) (b := b) (a := a) (z := z) (s := s)
  unfold px fr0 at e
  unfold sh px fr0
  rw [evP_fun (m := c13) rfl _ _ rfl]
  simp -implicitDefEqProofs only [c13, e, push_cast, Nat.reduceAdd, Nat.reduceMul, Nat.reduceSub, Nat.reduceLT, Nat.reduceLeDiff, Nat.reduceEqDiff, Nat.reducePow, Int.reduceToNat, Int.reduceLT, Int.reduceLE, Int.reduceNeg, Int.reduceEq, Int.reducePow, reduceIte, reduceCtorEq, Int.reduceMul, Int.reduceAdd, Int.reduceSub, Int.reduceMod, Int.reduceDiv, Int.reduceTDiv, Int.reduceTMod, iter_s]
theorem e13_2 (k : Nat) : evP (evF cm2 (k + 3)) 13 [sh 2 n, px r g b a z s, fr0] = some (.ifc 3 (.i n)) := by
  have e := fun k => e14_2 k (n := n) (r := r) (g := g) (b := b) (a := a) (z := z) (s := s)
  unfold px fr0 at e
  unfold sh px fr0
  rw [evP_fun (m := c13) rfl _ _ rfl]
  simp -implicitDefEqProofs only [c13, e, push_cast, Nat.reduceAdd, Nat.reduceMul, Nat.reduceSub, Nat.reduceLT, Nat.reduceLeDiff, Nat.reduceEqDiff, Nat.reducePow, Int.reduceToNat, Int.reduceLT, Int.reduceLE, Int.reduceNeg, Int.reduceEq, Int.reducePow, reduceIte, reduceCtorEq, Int.reduceMul, Int.reduceAdd, Int.reduceSub, Int.reduceMod, Int.reduceDiv, Int.reduceTDiv, Int.reduceTMod, iter_s]
end
end Go.Proofs.Ytmadcmmkbngemaa
