/- A memory tells its clashes, as the evaluator answers. -/
import Derived.Test.YtcmlnjkbdlakfaaMS
import Derived.Test.YtcmlnjkbdlakfaaMN
set_option linter.unusedSimpArgs false
set_option linter.unusedVariables false
set_option maxRecDepth 100000
set_option maxHeartbeats 16000000
namespace Go.Proofs.Ytcmlnjkbdlakfaa
open Go
/-! ### Clashes -/
def clS (n : Nat) (l : List (Int × Int × Int)) : LV := if l = [] then .nils else .sl n 0 0 l.length 3 l.length
def clT (l : List (Int × Int × Int)) : List Row := if l = [] then [] else [⟨0, clCells l⟩]
theorem clashes_ok (k : Nat) (h : List Row) (M : AM) (row : Tg → Nat) (H : MemAt h M row) (hc : M.cl.length < 1000000000) :
    evF cm (k + 3) 12 [.p (row .mem) 0 0] h 0 = some (clS h.length M.cl, h ++ clT M.cl) := by
  rw [evX_fun (m := c12) rfl _ _ _ _ H.ne0 rfl]
  cases hcl : M.cl with
  | nil =>
    have m1 := H.rmem
    rw [hcl] at m1
    have e : ∀ k, evP (evF cm (k + 1)) 27 [.nils] = some .nils := fun k => by kernel_rfl
    simp -implicitDefEqProofs only [c12, m1, outG, e, clS, clT, push_cast, Nat.reduceAdd, Nat.reduceMul, Nat.reduceSub, Nat.reduceLT, Nat.reduceLeDiff, Nat.reduceEqDiff, Nat.reducePow, Int.reduceToNat, Int.reduceLT, Int.reduceLE, Int.reduceNeg, Int.reduceEq, Int.reducePow, reduceIte, reduceCtorEq, Int.reduceMul, Int.reduceAdd, Int.reduceSub, Int.reduceMod, Int.reduceDiv, Int.reduceTDiv, Int.reduceTMod, iter_s]
  | cons c l =>
    have hne : M.cl ≠ [] := by rw [hcl]; simp
    have m1 := H.rmem
    have m2 := H.rcls hne
    have hl0 : M.cl.length = l.length + 1 := by rw [hcl]; rfl
    have hcc := clCells_len M.cl
    rw [hcl] at m1 m2 hcc
    simp only [List.length_cons, Nat.add_sub_cancel] at m1 m2 hcc
    have hca := clCells_atom (c :: l)
    have hcz := clCells_closed (c :: l)
    have hcn := clCells_noim (c :: l)
    have hcs := fun n => clCells_shLs n (c :: l)
    have htk : List.take ((l.length + 1) * 3) (clCells (c :: l)) = clCells (c :: l) := List.take_of_length_le (by omega)
    generalize hcq : clCells (c :: l) = cs at *
    have g1 : (l.length + 1) * 3 ≤ cs.length := by omega
    have g2 : l.length + 1 ≤ 9223372036854775807 := by omega
    have g3 : (l.length + 1) * 24 ≤ 140737488355328 := by omega
    have g4 : ¬ l.length + 1 = 0 := by omega
    have e : ∀ k b, evF cm (k + 1) 27 [.im cs (l.length + 1) b] [] 0 = some (.sl 0 0 0 (l.length + 1) 3 (l.length + 1), [⟨0, cs⟩]) := fun k b => by
      rw [evH_fun (m := c27) rfl _ _ _ _ rfl]
      simp -implicitDefEqProofs only [c27, hcc, hca, g2, g3, g4, push_cast, Nat.reduceAdd, Nat.reduceMul, Nat.reduceSub, Nat.reduceLT, Nat.reduceLeDiff, Nat.reduceEqDiff, Nat.reducePow, Int.reduceToNat, Int.reduceLT, Int.reduceLE, Int.reduceNeg, Int.reduceEq, Int.reducePow, reduceIte, reduceCtorEq, Int.reduceMul, Int.reduceAdd, Int.reduceSub, Int.reduceMod, Int.reduceDiv, Int.reduceTDiv, Int.reduceTMod, iter_s]
    have hx : clS h.length (c :: l) = .sl h.length 0 0 (l.length + 1) 3 (l.length + 1) := if_neg (by simp)
    have hy : clT (c :: l) = [⟨0, cs⟩] := by
      have : clT (c :: l) = [⟨0, clCells (c :: l)⟩] := if_neg (by simp)
      rw [this, hcq]
    rw [hx, hy]
    simp -implicitDefEqProofs only [c12, m1, m2, outG, e, g1, htk, hcz, hcn, hcs, call_I, impF_some, flat, push_cast, Nat.reduceAdd, Nat.reduceMul, Nat.reduceSub, Nat.reduceLT, Nat.reduceLeDiff, Nat.reduceEqDiff, Nat.reducePow, Int.reduceToNat, Int.reduceLT, Int.reduceLE, Int.reduceNeg, Int.reduceEq, Int.reducePow, reduceIte, reduceCtorEq, Int.reduceMul, Int.reduceAdd, Int.reduceSub, Int.reduceMod, Int.reduceDiv, Int.reduceTDiv, Int.reduceTMod, iter_s]
end Go.Proofs.Ytcmlnjkbdlakfaa
