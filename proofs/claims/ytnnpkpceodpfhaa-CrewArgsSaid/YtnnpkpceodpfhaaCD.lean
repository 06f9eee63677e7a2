/- A crew's frames, its workers, its tiles, as the evaluator answers. -/
import Derived.Test.YtnnpkpceodpfhaaCC
set_option linter.unusedSimpArgs false
set_option linter.unusedVariables false
set_option linter.unusedSectionVars false
set_option maxRecDepth 100000
set_option maxHeartbeats 16000000
namespace Go.Proofs.Ytnnpkpceodpfhaa
open Go
theorem atom_ints : ∀ l : List Int, (l.map LV.i).all atomB = true
  | [] => rfl
  | x :: l => by simp [atomB, Value.oneCell']
theorem eclone (k : Nat) (l : List Int) (b : Bool) (h0 : 0 < l.length) (hl : l.length ≤ 256) : evP (evF cm (k + 1)) 23 [.im (l.map LV.i) l.length b] = some (.im (l.map LV.i) l.length false) := by
  have g1 : ¬ l.length = 0 := by omega
  have g2 : l.length ≤ 9223372036854775807 := by omega
  have g3 : l.length * 8 ≤ 140737488355328 := by omega
  have hl' : (l.map LV.i).length = l.length := List.length_map ..
  have ht : List.take l.length (l.map LV.i) = l.map LV.i := List.take_of_length_le (by rw [hl']; exact Nat.le_refl _)
  have hat := atom_ints l
  have hcl := closedL_ints l
  generalize l.map LV.i = L at *
  generalize l.length = n at *
  rw [evP_fun (m := c23) rfl _ _ rfl]
  simp -implicitDefEqProofs only [c23, hl', ht, hat, hcl, g1, g2, g3, push_cast, Nat.reduceAdd, Nat.reduceMul, Nat.reduceSub, Nat.reduceLT, Nat.reduceLeDiff, Nat.reduceEqDiff, Nat.reducePow, Int.reduceToNat, Int.reduceLT, Int.reduceLE, Int.reduceNeg, Int.reduceEq, Int.reducePow, reduceIte, reduceCtorEq, Int.reduceMul, Int.reduceAdd, Int.reduceSub, Int.reduceMod, Int.reduceDiv, Int.reduceTDiv, Int.reduceTMod, iter_s]
theorem epublish (k : Nat) (h : List Row) (hn : h.isEmpty = false) (n : Int) : ∃ r, evF cm (k + 3) 24 [.p 1 0 0, .i n] h 0 = some (.p h.length 0 0, h ++ [r]) := by
  have e : ∀ k, ∃ r, evF cm (k + 2) 32 [.p 1 0 0, .f 33 [], .i 0, .i n] h 0 = some (.p h.length 0 0, h ++ [r]) := fun k => by
    rw [evX_fun (m := c32) rfl _ _ _ _ hn rfl]
    simp -implicitDefEqProofs only [c32, push_cast, Nat.reduceAdd, Nat.reduceMul, Nat.reduceSub, Nat.reduceLT, Nat.reduceLeDiff, Nat.reduceEqDiff, Nat.reducePow, Int.reduceToNat, Int.reduceLT, Int.reduceLE, Int.reduceNeg, Int.reduceEq, Int.reducePow, reduceIte, reduceCtorEq, Int.reduceMul, Int.reduceAdd, Int.reduceSub, Int.reduceMod, Int.reduceDiv, Int.reduceTDiv, Int.reduceTMod, iter_s]
    exact ⟨_, rfl⟩
  obtain ⟨r, e⟩ := e k
  refine ⟨r, ?_⟩
  rw [evX_fun (m := c24) rfl _ _ _ _ hn rfl]
  simp -implicitDefEqProofs only [c24, e, evX_P, evX_N, push_cast, Nat.reduceAdd, Nat.reduceMul, Nat.reduceSub, Nat.reduceLT, Nat.reduceLeDiff, Nat.reduceEqDiff, Nat.reducePow, Int.reduceToNat, Int.reduceLT, Int.reduceLE, Int.reduceNeg, Int.reduceEq, Int.reducePow, reduceIte, reduceCtorEq, Int.reduceMul, Int.reduceAdd, Int.reduceSub, Int.reduceMod, Int.reduceDiv, Int.reduceTDiv, Int.reduceTMod, iter_s]
/-! ### of no crew -/
section
variable (h : List Row) (hn : h.isEmpty = false)
include hn
theorem n6 (k : Nat) (S : LV) (hS : S.cells = [S]) : evF cm (k + 1) 6 [.v (.pointer none), S] h 0 = some (.tup [.v (.pointer none), .i 1], h) := by
  rw [evX_fun (m := c6) rfl _ _ _ _ hn rfl]
  simp -implicitDefEqProofs only [c6, hS, push_cast, Nat.reduceAdd, Nat.reduceMul, Nat.reduceSub, Nat.reduceLT, Nat.reduceLeDiff, Nat.reduceEqDiff, Nat.reducePow, Int.reduceToNat, Int.reduceLT, Int.reduceLE, Int.reduceNeg, Int.reduceEq, Int.reducePow, reduceIte, reduceCtorEq, Int.reduceMul, Int.reduceAdd, Int.reduceSub, Int.reduceMod, Int.reduceDiv, Int.reduceTDiv, Int.reduceTMod, iter_s]
theorem n7 (k : Nat) (n : Int) : evF cm (k + 1) 7 [.v (.pointer none), .i n] h 0 = some (.v (.pointer none), h) := by
  rw [evX_fun (m := c7) rfl _ _ _ _ hn rfl]
  simp -implicitDefEqProofs only [c7, push_cast, Nat.reduceAdd, Nat.reduceMul, Nat.reduceSub, Nat.reduceLT, Nat.reduceLeDiff, Nat.reduceEqDiff, Nat.reducePow, Int.reduceToNat, Int.reduceLT, Int.reduceLE, Int.reduceNeg, Int.reduceEq, Int.reducePow, reduceIte, reduceCtorEq, Int.reduceMul, Int.reduceAdd, Int.reduceSub, Int.reduceMod, Int.reduceDiv, Int.reduceTDiv, Int.reduceTMod, iter_s]
theorem n8 (k : Nat) : evF cm (k + 1) 8 [.v (.pointer none)] h 0 = some (.tup [.agg [.i 0, .i 0, .i 0, .i 0], .b true], h ++ [⟨0, [.i 0, .i 0, .i 0, .i 0]⟩]) := by
  have r1 : ∀ cs, rowOf (h ++ [⟨0, cs⟩]) h.length 0 = some cs := fun cs => rowOf_app_eq
  have r2 : ∀ x y : Row, (h ++ [x]).set h.length y = h ++ [y] := fun x y => app1_0
  rw [evX_fun (m := c8) rfl _ _ _ _ hn rfl]
  simp -implicitDefEqProofs only [c8, r1, r2, push_cast, Nat.reduceAdd, Nat.reduceMul, Nat.reduceSub, Nat.reduceLT, Nat.reduceLeDiff, Nat.reduceEqDiff, Nat.reducePow, Int.reduceToNat, Int.reduceLT, Int.reduceLE, Int.reduceNeg, Int.reduceEq, Int.reducePow, reduceIte, reduceCtorEq, Int.reduceMul, Int.reduceAdd, Int.reduceSub, Int.reduceMod, Int.reduceDiv, Int.reduceTDiv, Int.reduceTMod, iter_s]
theorem n9 (k : Nat) (n : Int) : evF cm (k + 1) 9 [.v (.pointer none), .i n] h 0 = some (.i 1, h) := by
  rw [evX_fun (m := c9) rfl _ _ _ _ hn rfl]
  simp -implicitDefEqProofs only [c9, push_cast, Nat.reduceAdd, Nat.reduceMul, Nat.reduceSub, Nat.reduceLT, Nat.reduceLeDiff, Nat.reduceEqDiff, Nat.reducePow, Int.reduceToNat, Int.reduceLT, Int.reduceLE, Int.reduceNeg, Int.reduceEq, Int.reducePow, reduceIte, reduceCtorEq, Int.reduceMul, Int.reduceAdd, Int.reduceSub, Int.reduceMod, Int.reduceDiv, Int.reduceTDiv, Int.reduceTMod, iter_s]
theorem n10 (k : Nat) : evF cm (k + 1) 10 [.v (.pointer none)] h 0 = some (.v (.pointer none), h) := by
  rw [evX_fun (m := c10) rfl _ _ _ _ hn rfl]
  simp -implicitDefEqProofs only [c10, push_cast, Nat.reduceAdd, Nat.reduceMul, Nat.reduceSub, Nat.reduceLT, Nat.reduceLeDiff, Nat.reduceEqDiff, Nat.reducePow, Int.reduceToNat, Int.reduceLT, Int.reduceLE, Int.reduceNeg, Int.reduceEq, Int.reducePow, reduceIte, reduceCtorEq, Int.reduceMul, Int.reduceAdd, Int.reduceSub, Int.reduceMod, Int.reduceDiv, Int.reduceTDiv, Int.reduceTMod, iter_s]
theorem n11 (k : Nat) : evF cm (k + 1) 11 [.v (.pointer none)] h 0 = some (.v (.pointer none), h) := by
  rw [evX_fun (m := c11) rfl _ _ _ _ hn rfl]
  simp -implicitDefEqProofs only [c11, push_cast, Nat.reduceAdd, Nat.reduceMul, Nat.reduceSub, Nat.reduceLT, Nat.reduceLeDiff, Nat.reduceEqDiff, Nat.reducePow, Int.reduceToNat, Int.reduceLT, Int.reduceLE, Int.reduceNeg, Int.reduceEq, Int.reducePow, reduceIte, reduceCtorEq, Int.reduceMul, Int.reduceAdd, Int.reduceSub, Int.reduceMod, Int.reduceDiv, Int.reduceTDiv, Int.reduceTMod, iter_s]
end
/-- A crew behind one row: its frames, its workers. -/
structure CF (h : List Row) (M : AM) (row : Tg → Nat) (k t rc rk : Nat) (ds fr : LV) (wr : Nat → Nat) (w : Nat) : Prop where
  mem : MemAt h M row
  rm : row .mem = 5
  own : ∀ j, own M row j → 0 < j ∧ j < rc
  r0 : 0 < rc
  lc : rc < h.length
  crew : rowOf h rc 0 = some (crewC 5 1 k t ((k + 1 : Nat) : Int) ds (.sl rk w 0 (w + 1) 1 (w + 1)) fr)
  wk : rowOf h rk w = some (wkL wr (w + 1))
  lk : rc < rk
theorem CF.ne0 {h : List Row} {M : AM} {row : Tg → Nat} {k t rc rk w : Nat} {ds fr : LV} {wr : Nat → Nat} (C : CF h M row k t rc rk ds fr wr w) : h.isEmpty = false := C.mem.ne0
theorem shLs_app (m : Nat) : ∀ a b : List LV, shLs m (a ++ b) = shLs m a ++ shLs m b
  | [], b => rfl
  | x :: a, b => by simp [shLs, shLs_app m a b]
theorem wkL_shLs (m : Nat) (wr : Nat → Nat) : ∀ i, shLs m (wkL wr i) = wkL (fun j => m + wr j) i
  | 0 => rfl
  | i + 1 => by simp only [wkL, shLs_app, wkL_shLs m wr i]; rfl
theorem row_shift {h g : List Row} {r v : Nat} {cs : List LV} (e : rowOf h r v = some cs) : rowOf (g ++ shR g.length h) (g.length + r) v = some (shLs g.length cs) := by
  refine rowOf_at ?_
  rw [List.getElem?_append_right (by omega), Nat.add_sub_cancel_left, shR_get, at_rowOf e]
  rfl
theorem CI.shift {h : List Row} {M : AM} {row : Tg → Nat} {k t a0 rc rd rk w : Nat} {wr : Nat → Nat} (I : CI h M row k t a0 rc rd rk wr (w + 1)) (x : Row) :
    CF ([x] ++ shR 1 h) M (fun τ => 1 + row τ) k t (1 + rc) (1 + rk) (.sl (1 + rd) w 0 (w + 1) 2 (w + 1)) .nils (fun j => 1 + wr j) w := by
  obtain ⟨k1, k2⟩ := I.wk (Nat.succ_pos w)
  refine ⟨mem_shift I.mem [x], by rw [I.rm], fun j hj => ?_, by omega, ?_, ?_, ?_, by omega⟩
  · obtain ⟨τ, h1, rfl⟩ := hj
    have := (I.own _ ⟨τ, h1, rfl⟩).2
    show 0 < 1 + row τ ∧ 1 + row τ < 1 + rc
    omega
  · have := rowOf_lt (row_shift (g := [x]) I.crew)
    exact this
  · have := row_shift (g := [x]) I.crew
    simp only [crewC, shLs, shL, shL_outG, outG] at this ⊢
    exact this
  · have := row_shift (g := [x]) k1
    rw [wkL_shLs] at this
    exact this
/-- What of a crew tells its workers. -/
structure CW (h : List Row) (k t rc rk : Nat) (ds fr : LV) (wr : Nat → Nat) (w : Nat) : Prop where
  ne0 : h.isEmpty = false
  crew : rowOf h rc 0 = some (crewC 5 1 k t ((k + 1 : Nat) : Int) ds (.sl rk w 0 (w + 1) 1 (w + 1)) fr)
  wk : rowOf h rk w = some (wkL wr (w + 1))
section
variable {h : List Row} {k t rc rk w : Nat} {ds fr : LV} {wr : Nat → Nat} (C : CW h k t rc rk ds fr wr w)
include C
theorem c7y (K : Nat) (n : Nat) (hn : n ≤ w) : evF cm (K + 1) 7 [.p rc 0 0, .i n] h 0 = some (.p (wr n) 0 0, h) := by
  have h1 := C.crew
  have h2 := C.wk
  unfold crewC at h1
  have g1 : ¬ (n : Int) < 0 := by omega
  have g2 : ¬ (w : Int) + 1 ≤ (n : Int) := by omega
  have g3 : (n : Int) < (w : Int) + 1 := by omega
  have g4 : (0 : Int) ≤ (n : Int) := by omega
  have e := wkL_get wr (w + 1) n (by omega)
  generalize hw : wkL wr (w + 1) = W at *
  rw [evX_fun (m := c7) rfl _ _ _ _ C.ne0 rfl]
  simp -implicitDefEqProofs only [c7, h1, h2, g1, g2, g3, g4, e, push_cast, Nat.reduceAdd, Nat.reduceMul, Nat.reduceSub, Nat.reduceLT, Nat.reduceLeDiff, Nat.reduceEqDiff, Nat.reducePow, Int.reduceToNat, Int.reduceLT, Int.reduceLE, Int.reduceNeg, Int.reduceEq, Int.reducePow, reduceIte, reduceCtorEq, Int.reduceMul, Int.reduceAdd, Int.reduceSub, Int.reduceMod, Int.reduceDiv, Int.reduceTDiv, Int.reduceTMod, iter_s]
theorem c7n (K : Nat) (n : Int) (hn : n < 0 ∨ ((w + 1 : Nat) : Int) ≤ n) : evF cm (K + 1) 7 [.p rc 0 0, .i n] h 0 = some (.v (.pointer none), h) := by
  have h1 := C.crew
  unfold crewC at h1
  rw [evX_fun (m := c7) rfl _ _ _ _ C.ne0 rfl]
  by_cases g1 : n < 0
  · simp -implicitDefEqProofs only [c7, h1, g1, push_cast, Nat.reduceAdd, Nat.reduceMul, Nat.reduceSub, Nat.reduceLT, Nat.reduceLeDiff, Nat.reduceEqDiff, Nat.reducePow, Int.reduceToNat, Int.reduceLT, Int.reduceLE, Int.reduceNeg, Int.reduceEq, Int.reducePow, reduceIte, reduceCtorEq, Int.reduceMul, Int.reduceAdd, Int.reduceSub, Int.reduceMod, Int.reduceDiv, Int.reduceTDiv, Int.reduceTMod, iter_s]
  · have g2 : (w : Int) + 1 ≤ n := by omega
    simp -implicitDefEqProofs only [c7, h1, g1, g2, push_cast, Nat.reduceAdd, Nat.reduceMul, Nat.reduceSub, Nat.reduceLT, Nat.reduceLeDiff, Nat.reduceEqDiff, Nat.reducePow, Int.reduceToNat, Int.reduceLT, Int.reduceLE, Int.reduceNeg, Int.reduceEq, Int.reducePow, reduceIte, reduceCtorEq, Int.reduceMul, Int.reduceAdd, Int.reduceSub, Int.reduceMod, Int.reduceDiv, Int.reduceTDiv, Int.reduceTMod, iter_s]
end
/-! ### of a crew -/
section
variable {h : List Row} {M : AM} {row : Tg → Nat} {k t rc rk w : Nat} {ds fr : LV} {wr : Nat → Nat} (C : CF h M row k t rc rk ds fr wr w)
include C
theorem c10y (K : Nat) : evF cm (K + 1) 10 [.p rc 0 0] h 0 = some (.p 5 0 0, h) := by
  have h1 := C.crew
  unfold crewC at h1
  rw [evX_fun (m := c10) rfl _ _ _ _ C.ne0 rfl]
  simp -implicitDefEqProofs only [c10, h1, push_cast, Nat.reduceAdd, Nat.reduceMul, Nat.reduceSub, Nat.reduceLT, Nat.reduceLeDiff, Nat.reduceEqDiff, Nat.reducePow, Int.reduceToNat, Int.reduceLT, Int.reduceLE, Int.reduceNeg, Int.reduceEq, Int.reducePow, reduceIte, reduceCtorEq, Int.reduceMul, Int.reduceAdd, Int.reduceSub, Int.reduceMod, Int.reduceDiv, Int.reduceTDiv, Int.reduceTMod, iter_s]
theorem c11' (K : Nat) : evF cm (K + 1) 11 [.p rc 0 0] h 0 = some (.p 1 0 0, h) := by
  have h1 := C.crew
  unfold crewC at h1
  rw [evX_fun (m := c11) rfl _ _ _ _ C.ne0 rfl]
  simp -implicitDefEqProofs only [c11, h1, push_cast, Nat.reduceAdd, Nat.reduceMul, Nat.reduceSub, Nat.reduceLT, Nat.reduceLeDiff, Nat.reduceEqDiff, Nat.reducePow, Int.reduceToNat, Int.reduceLT, Int.reduceLE, Int.reduceNeg, Int.reduceEq, Int.reducePow, reduceIte, reduceCtorEq, Int.reduceMul, Int.reduceAdd, Int.reduceSub, Int.reduceMod, Int.reduceDiv, Int.reduceTDiv, Int.reduceTMod, iter_s]
theorem c9n (K : Nat) (n : Int) (hn : n < 0 ∨ (t : Int) ≤ n) : evF cm (K + 1) 9 [.p rc 0 0, .i n] h 0 = some (.i 2, h) := by
  have h1 := C.crew
  unfold crewC at h1
  rw [evX_fun (m := c9) rfl _ _ _ _ C.ne0 rfl]
  by_cases g1 : n < 0
  · simp -implicitDefEqProofs only [c9, h1, g1, push_cast, Nat.reduceAdd, Nat.reduceMul, Nat.reduceSub, Nat.reduceLT, Nat.reduceLeDiff, Nat.reduceEqDiff, Nat.reducePow, Int.reduceToNat, Int.reduceLT, Int.reduceLE, Int.reduceNeg, Int.reduceEq, Int.reducePow, reduceIte, reduceCtorEq, Int.reduceMul, Int.reduceAdd, Int.reduceSub, Int.reduceMod, Int.reduceDiv, Int.reduceTDiv, Int.reduceTMod, iter_s]
  · have g2 : (t : Int) ≤ n := by omega
    simp -implicitDefEqProofs only [c9, h1, g1, g2, push_cast, Nat.reduceAdd, Nat.reduceMul, Nat.reduceSub, Nat.reduceLT, Nat.reduceLeDiff, Nat.reduceEqDiff, Nat.reducePow, Int.reduceToNat, Int.reduceLT, Int.reduceLE, Int.reduceNeg, Int.reduceEq, Int.reducePow, reduceIte, reduceCtorEq, Int.reduceMul, Int.reduceAdd, Int.reduceSub, Int.reduceMod, Int.reduceDiv, Int.reduceTDiv, Int.reduceTMod, iter_s]
theorem c9y (K : Nat) (n : Nat) (hn : n < t) (ht : t ≤ 256) (hk : k ≤ 8) (h0 : 0 < M.n) (hp : M.np = k + 1 + t) (ho : M.ops < 1000000000) (hc : M.cl.length < 900000000) :
    ∃ h', evF cm (K + 112) 9 [.p rc 0 0, .i n] h 0 = some (.i 0, h') ∧ CW h' k t rc rk ds fr wr w ∧ rowOf h' 0 0 = rowOf h 0 0 := by
  have h1 := C.crew
  unfold crewC at h1
  have g1 : ¬ (n : Int) < 0 := by omega
  have g2 : ¬ (t : Int) ≤ (n : Int) := by omega
  obtain ⟨h', row', e, H', hr, F⟩ := read_ok K h M row C.mem 0 (k + 1 + n) h0 (by omega) ho hc
  rw [C.rm] at e
  have e0 : evF cm (K + 111) 25 [.p 5 0 0, .i 0, .i ((k + 1 + n : Nat) : Int)] h 0 = some (.i 0, h') := e
  have w1 : IntKind.i64.wrap ((k : Int) + 1 + (n : Int)) = ((k + 1 + n : Nat) : Int) := by rw [w64 _ (by omega) (by omega)]; omega
  refine ⟨h', ?_, ⟨H'.ne0, ?_, ?_⟩, ?_⟩
  · rw [evX_fun (m := c9) rfl _ _ _ _ C.ne0 rfl]
    generalize ((k + 1 + n : Nat) : Int) = y at *
    simp -implicitDefEqProofs only [c9, h1, g1, g2, w1, e0, evX_P, evX_N, push_cast, Nat.reduceAdd, Nat.reduceMul, Nat.reduceSub, Nat.reduceLT, Nat.reduceLeDiff, Nat.reduceEqDiff, Nat.reducePow, Int.reduceToNat, Int.reduceLT, Int.reduceLE, Int.reduceNeg, Int.reduceEq, Int.reducePow, reduceIte, reduceCtorEq, Int.reduceMul, Int.reduceAdd, Int.reduceSub, Int.reduceMod, Int.reduceDiv, Int.reduceTDiv, Int.reduceTMod, iter_s]
  · exact rowOf_at ((F.same rc C.lc fun ho => absurd (C.own _ ho).2 (Nat.lt_irrefl _)).trans (at_rowOf C.crew))
  · exact rowOf_at ((F.same rk (rowOf_lt C.wk) fun ho => absurd (C.own _ ho).2 (by have := C.lk; omega)).trans (at_rowOf C.wk))
  · unfold rowOf
    rw [F.same 0 (by have := C.lc; omega) fun ho => absurd (C.own _ ho).1 (Nat.lt_irrefl _)]
end
end Go.Proofs.Ytnnpkpceodpfhaa
