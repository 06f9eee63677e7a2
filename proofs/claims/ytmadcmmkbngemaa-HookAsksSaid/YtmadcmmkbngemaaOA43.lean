/- Whatever a shader does, a pixel comes, or an error (HookAsks), as the evaluator answers. -/
import Derived.Test.YtmadcmmkbngemaaMA43
import Derived.Test.YtmadcmmkbngemaaNA43
set_option linter.unusedSimpArgs false
set_option linter.unusedVariables false
set_option maxRecDepth 100000
set_option maxHeartbeats 8000000
namespace Go.Proofs.Ytmadcmmkbngemaa
open Go
theorem iso_P {cal : Callee} {h : List Row} {g : FuncId} {us : List LV} {y : LV} (hc : closedL us = true) (e : evP cal g us = some y) : isoE cal h g us = some (y, []) := by
  unfold evP at e
  rw [iso_c hc]
  cases hh : cal g us [] 0 with
  | none => rw [hh] at e; cases e
  | some x =>
    obtain ⟨r, h'⟩ := x
    rw [hh] at e
    simp only at e
    rw [isoC_some]
    split at e
    · rename_i hcl
      simp only [Option.some.injEq] at e
      subst e
      rw [if_pos hcl]
    · cases e
section
variable {n r g b a z s : Int}
theorem e4_fine (k : Nat) (kind : Int) (hk : 0 ≤ kind ∧ kind ≤ 2) {r2 g2 b2 a2 z2 s2 : Int} {y : LV} {st : ByteArray} (hw : wantV kind n r g b a z s = .tup [px r2 g2 b2 a2 z2 s2, .b true]) (hA : ansA kind n r g b a z s = some (tell r2 g2 b2 a2 z2 s2))
    (h13 : ∀ k, evP (evF cm2 (k + 3)) 13 [sh kind n, px r g b a z s, fr0] = some y) (h12 : ∀ k f, evP (evF cm2 (k + 20)) 12 [.im [y] 1 f] = some (.v (.string st))) (hy : atomB y = true) (hyc : y.cells = [y]) (hc : closed y = true)
    (hx : ((⟨#[112, 99, 110]⟩ : ByteArray).extract kind.toNat (kind + 1).toNat) = st) (hs : (st == st) = true) :
    evP (evF cm2 (k + 400)) 4 [.i kind, .i n, px r g b a z s] = some (.b true) := by
  have e9' := fun k => e9 k kind n r g b a z s
  rw [hw] at e9'
  have e10' := fun k => e10 k r2 g2 b2 a2 z2 s2
  have e6' := e6 (k + 299)
  have cs := sh_closed kind n
  have ca := sh_atom kind n
  have g1 : ¬ kind < 0 := by omega
  have g2' : ¬ 4 < kind := by omega
  have g3 : 0 ≤ kind := by omega
  have g4 : kind ≤ kind + 1 := by omega
  have g5 : kind + 1 ≤ ((⟨#[112, 99, 110]⟩ : ByteArray).size : Int) := by show kind + 1 ≤ 3; omega
  have w1 : IntKind.i64.wrap (kind + 1) = kind + 1 := w64 _ (by omega) (by omega)
  have i8 : ∀ k h, isoE (evF cm2 (k + 1)) h 8 [.i kind, .i n] = some (sh kind n, []) := fun k h => iso_P (by simp [closedL, closed]) (e8 k kind n)
  have i13 : ∀ k h, isoE (evF cm2 (k + 3)) h 13 [sh kind n, px r g b a z s, fr0] = some (y, []) := fun k h => iso_P (by simp [closedL, closed, px, fr0, cs]) (h13 k)
  have i12 : ∀ k h f, isoE (evF cm2 (k + 20)) h 12 [.im [y] 1 f] = some (.v (.string st), []) := fun k h f => iso_P (by simp [closedL, closed, hc]) (h12 k f)
  unfold px fr0 at i13
  cases hR : Rx r2 g2 b2 a2 z2 s2 with
  | true =>
    rw [tell_yes hR] at hA
    have e11' := fun k => e11 k kind n r g b a z s _ hA (by simp [px, closed, closedL])
    rw [hR] at e10'
    unfold px fr0 at e11' h13
    unfold px at e9' e10'
    unfold px
    rw [evP_fun (m := c4) rfl _ _ rfl]
    simp -implicitDefEqProofs only [c4, g1, g2', g3, g4, g5, w1, e8, e11', e9', e10', h13, h12, i8, i13, i12, hx, hs, hy, hyc, hc, e6', cs, ca, eq_self, push_cast, Nat.reduceAdd, Nat.reduceMul, Nat.reduceSub, Nat.reduceLT, Nat.reduceLeDiff, Nat.reduceEqDiff, Nat.reducePow, Int.reduceToNat, Int.reduceLT, Int.reduceLE, Int.reduceNeg, Int.reduceEq, Int.reducePow, reduceIte, reduceCtorEq, Int.reduceMul, Int.reduceAdd, Int.reduceSub, Int.reduceMod, Int.reduceDiv, Int.reduceTDiv, Int.reduceTMod, iter_s]
  | false =>
    rw [tell_no hR] at hA
    have e11' := fun k => e11 k kind n r g b a z s _ hA (by simp [px, closed, closedL])
    rw [hR] at e10'
    unfold px fr0 at e11' h13
    unfold px at e9' e10'
    unfold px
    rw [evP_fun (m := c4) rfl _ _ rfl]
    simp -implicitDefEqProofs only [c4, g1, g2', g3, g4, g5, w1, e8, e11', e9', e10', h13, h12, i8, i13, i12, hx, hs, hy, hyc, hc, e6', cs, ca, eq_self, push_cast, Nat.reduceAdd, Nat.reduceMul, Nat.reduceSub, Nat.reduceLT, Nat.reduceLeDiff, Nat.reduceEqDiff, Nat.reducePow, Int.reduceToNat, Int.reduceLT, Int.reduceLE, Int.reduceNeg, Int.reduceEq, Int.reducePow, reduceIte, reduceCtorEq, Int.reduceMul, Int.reduceAdd, Int.reduceSub, Int.reduceMod, Int.reduceDiv, Int.reduceTDiv, Int.reduceTMod, iter_s]
theorem e4_wild (k : Nat) (kind : Int) (hk : kind < 0 ∨ 4 < kind) : evP (evF cm2 (k + 400)) 4 [.i kind, .i n, px r g b a z s] = some (.b true) := by
  have e6' := e6 (k + 299)
  unfold px
  rw [evP_fun (m := c4) rfl _ _ rfl]
  by_cases h : kind < 0
  · simp -implicitDefEqProofs only [c4, h, e6', push_cast, Nat.reduceAdd, Nat.reduceMul, Nat.reduceSub, Nat.reduceLT, Nat.reduceLeDiff, Nat.reduceEqDiff, Nat.reducePow, Int.reduceToNat, Int.reduceLT, Int.reduceLE, Int.reduceNeg, Int.reduceEq, Int.reducePow, reduceIte, reduceCtorEq, Int.reduceMul, Int.reduceAdd, Int.reduceSub, Int.reduceMod, Int.reduceDiv, Int.reduceTDiv, Int.reduceTMod, iter_s]
  · have h2 : 4 < kind := by omega
    simp -implicitDefEqProofs only [c4, h, h2, e6', push_cast, Nat.reduceAdd, Nat.reduceMul, Nat.reduceSub, Nat.reduceLT, Nat.reduceLeDiff, Nat.reduceEqDiff, Nat.reducePow, Int.reduceToNat, Int.reduceLT, Int.reduceLE, Int.reduceNeg, Int.reduceEq, Int.reducePow, reduceIte, reduceCtorEq, Int.reduceMul, Int.reduceAdd, Int.reduceSub, Int.reduceMod, Int.reduceDiv, Int.reduceTDiv, Int.reduceTMod, iter_s]
theorem e4_14 (k : Nat) (kind : Int) (hk : kind = 3 ∨ kind = 4) : evP (evF cm2 (k + 400)) 4 [.i kind, .i n, px r g b a z s] = some (.b true) := by
  have hA : ansA kind n r g b a z s = some (.tup [px 0 0 0 0 0 0, .i 14]) := by rcases hk with rfl | rfl <;> rfl
  have hW : wantV kind n r g b a z s = .tup [px 0 0 0 0 0 0, .b false] := by rcases hk with rfl | rfl <;> rfl
  have e11' := fun k => e11 k kind n r g b a z s _ hA (by simp [px, closed, closedL])
  have e9' := fun k => e9 k kind n r g b a z s
  rw [hW] at e9'
  have e6' := e6 (k + 299)
  have cs := sh_closed kind n
  have ca := sh_atom kind n
  have g1 : ¬ kind < 0 := by omega
  have g2' : ¬ 4 < kind := by omega
  unfold px fr0 at e11'
  unfold px at e9'
  unfold px
  rw [evP_fun (m := c4) rfl _ _ rfl]
  simp -implicitDefEqProofs only [c4, g1, g2', e8, e11', e9', e6', cs, ca, eq_self, push_cast, Nat.reduceAdd, Nat.reduceMul, Nat.reduceSub, Nat.reduceLT, Nat.reduceLeDiff, Nat.reduceEqDiff, Nat.reducePow, Int.reduceToNat, Int.reduceLT, Int.reduceLE, Int.reduceNeg, Int.reduceEq, Int.reducePow, reduceIte, reduceCtorEq, Int.reduceMul, Int.reduceAdd, Int.reduceSub, Int.reduceMod, Int.reduceDiv, Int.reduceTDiv, Int.reduceTMod, iter_s]
end
theorem e4 (k : Nat) (kind n r g b a z s : Int) : evP (evF cm2 (k + 400)) 4 [.i kind, .i n, px r g b a z s] = some (.b true) := by
  by_cases hk : 0 ≤ kind ∧ kind ≤ 4
  · have hc : kind = 0 ∨ kind = 1 ∨ kind = 2 ∨ (kind = 3 ∨ kind = 4) := by omega
    rcases hc with rfl | rfl | rfl | h
    · exact e4_fine k 0 (by omega) rfl rfl (fun k => e13_0 k) (fun k f => e12_p k r g b a n s f) rfl rfl (by simp [px, closed, closedL]) rfl rfl
    · exact e4_fine k 1 (by omega) rfl rfl (fun k => e13_1 k) (fun k f => e12_c k n 0 0 0 f) rfl rfl (by simp [closed, closedL]) rfl rfl
    · exact e4_fine k 2 (by omega) rfl rfl (fun k => e13_2 k) (fun k f => e12_n k n f) rfl rfl (by simp [closed, closedL]) rfl rfl
    · exact e4_14 k kind h
  · exact e4_wild k kind (by omega)
end Go.Proofs.Ytmadcmmkbngemaa
