/- The rounds of Threes: what each does, as the evaluator answers. -/
import Derived.Test.YteeghebaankmlaaTA24
import Derived.Test.YteeghebaankmlaaEng20
set_option linter.unusedSimpArgs false
set_option linter.unusedVariables false
set_option maxRecDepth 100000
set_option maxHeartbeats 16000000
namespace Go.Proofs.Yteeghebaankmlaa
open Go
def cBi : MC := (.seq (.reg [] [⟨(some 51), (.bin .lss (.t 50) (.t 49)), none⟩]) (.seq (.cond (.t 51) .skip (.exit 3)) (.seq (.block 4 (.seq (.reg [] [⟨(some 52), (.mv (.t 50)), none⟩, ⟨(some 53), (.ixs (.t 48) (.t 50) 1), none⟩, ⟨(some 54), (.ld (.t 53) none), none⟩, ⟨(some 13), (.mv (.t 52)), none⟩, ⟨(some 14), (.mv (.t 54)), none⟩]) (.seq (.seq (.reg [] [⟨(some 55), (.mv (.t 14)), none⟩, ⟨(some 56), (.bin .lss (.t 55) (.c (.v (.int .i64 0)))), none⟩, ⟨(some 57), (.mv (.t 56)), none⟩, ⟨(some 58), (.mv (.t 14)), (some (57, false))⟩, ⟨(some 59), (.ld (.t 4) none), (some (57, false))⟩, ⟨(some 60), (.len (.t 59)), (some (57, false))⟩, ⟨(some 61), (.bin .geq (.t 58) (.t 60)), (some (57, false))⟩, ⟨(some 62), (.pick (.t 57) (.c (.v (.bool true))) (.t 61)), none⟩]) (.cond (.t 62) (.seq (.reg [] [⟨none, (.st (.t 8) (.c (.v (.slice none 0 0))) 1), none⟩, ⟨none, (.st (.t 9) (.c (.v (.int .i64 10))) 1), none⟩]) .ret) .skip)) (.reg [] [⟨(some 63), (.mv (.t 13)), none⟩, ⟨(some 64), (.ld (.t 4) none), none⟩, ⟨(some 65), (.mv (.t 14)), none⟩, ⟨(some 66), (.ixs (.t 64) (.t 65) 9), none⟩, ⟨(some 67), (.ld (.t 66) (some 9)), none⟩, ⟨(some 68), (.ixa (.t 12) (.t 63) 3 9), none⟩, ⟨none, (.st (.t 68) (.t 67) 9), none⟩])))) (.reg [] [⟨(some 69), (.bin .add (.t 50) (.c (.v (.int .i64 1)))), none⟩, ⟨(some 50), (.mv (.t 69)), none⟩]))))
def cB : MC := (.block 2 (.seq (.reg [] [⟨(some 12), (.box (.c (.agg [(.v (.int .i64 0)), (.v (.int .i64 0)), (.v (.int .i64 0)), (.v (.int .i64 0)), (.v (.int .i64 0)), (.v (.int .i64 0)), (.v (.int .i64 0)), (.v (.int .i64 0)), (.v (.int .i64 0)), (.v (.int .i64 0)), (.v (.int .i64 0)), (.v (.int .i64 0)), (.v (.int .i64 0)), (.v (.int .i64 0)), (.v (.int .i64 0)), (.v (.int .i64 0)), (.v (.int .i64 0)), (.v (.int .i64 0)), (.v (.int .i64 0)), (.v (.int .i64 0)), (.v (.int .i64 0)), (.v (.int .i64 0)), (.v (.int .i64 0)), (.v (.int .i64 0)), (.v (.int .i64 0)), (.v (.int .i64 0)), (.v (.int .i64 0))]))), none⟩]) (.seq (.seq (.reg [] [⟨(some 48), (.mv (.t 11)), none⟩, ⟨(some 49), (.len (.t 48)), none⟩, ⟨(some 50), (.mv (.c (.v (.int .i64 0)))), none⟩]) (.block 3 (.loopN [69, 68, 67, 66, 65, 64, 63, 62, 61, 60, 59, 58, 57, 56, 55, 54, 53, 52, 51] cBi))) (.reg [] [⟨(some 70), (.ld (.t 10) none), none⟩, ⟨(some 71), (.ld (.t 12) (some 27)), none⟩, ⟨(some 72), (.bsl [(.v (.int .i64 0)), (.v (.int .i64 0)), (.v (.int .i64 0)), (.v (.int .i64 0)), (.v (.int .i64 0)), (.v (.int .i64 0)), (.v (.int .i64 0)), (.v (.int .i64 0)), (.v (.int .i64 0)), (.v (.int .i64 0)), (.v (.int .i64 0)), (.v (.int .i64 0)), (.v (.int .i64 0)), (.v (.int .i64 0)), (.v (.int .i64 0)), (.v (.int .i64 0)), (.v (.int .i64 0)), (.v (.int .i64 0)), (.v (.int .i64 0)), (.v (.int .i64 0)), (.v (.int .i64 0)), (.v (.int .i64 0)), (.v (.int .i64 0)), (.v (.int .i64 0)), (.v (.int .i64 0)), (.v (.int .i64 0)), (.v (.int .i64 0))] 1 [(0, (27, (.t 71)))]), none⟩, ⟨(some 73), (.app (.t 70) (.t 72) 27 216), none⟩, ⟨none, (.st (.t 10) (.t 73) 1), none⟩]))))
theorem cB_ok : cC Try.prog (true, []) f6code.tmpNames rb6 = cB := by kernel_rfl
def V9 (vl : List Int) (n : Nat) : List LV := [.i (vl.getD (n * 9) 0), .i (vl.getD (n * 9 + 1) 0), .i (vl.getD (n * 9 + 2) 0), .i (vl.getD (n * 9 + 3) 0), .i (vl.getD (n * 9 + 4) 0), .i (vl.getD (n * 9 + 5) 0), .i (vl.getD (n * 9 + 6) 0), .i (vl.getD (n * 9 + 7) 0), .i (vl.getD (n * 9 + 8) 0)]
theorem ix9 {vl : List Int} {nv : Nat} {V : LV} (hV : SlE 9 nv vl V) (n : Nat) (h : n < nv) : ∃ rest, ixsE 9 V (.i n) = some (.pi (V9 vl n ++ rest)) := by
  have hsz := hV.sz
  obtain ⟨rest, hr⟩ := dropE vl 9 (n * 9) (by omega)
  refine ⟨rest, ?_⟩
  rw [hV.ix n h, hr]
  simp [V9, List.range_succ]
def T0 (l : LV) : List LV := [.bad, .bad, .bad, .bad, .p 0 0 0, .bad, .bad, .bad, .p 1 0 0, .p 2 0 0, .p 3 0 0, l, .bad, .bad, .bad, .bad, .bad, .bad, .bad, .bad, .bad, .bad, .bad, .bad, .bad, .bad, .bad, .bad, .bad, .bad, .bad, .bad, .bad, .bad, .bad, .bad, .bad, .bad, .bad, .bad, .bad, .bad, .bad, .bad, .bad, .bad, .bad, .bad, .bad, .bad, .bad, .bad, .bad, .bad, .bad, .bad, .bad, .bad, .bad, .bad, .bad, .bad, .bad, .bad, .bad, .bad, .bad, .bad, .bad, .bad, .bad, .bad, .bad, .bad, .bad]
theorem app1_0 {h : List Row} {a x : Row} : (h ++ [a]).set h.length x = h ++ [x] := by
  rw [List.set_append_right _ _ (Nat.le_refl _), Nat.sub_self]; rfl
theorem rowOf_app1 {h : List Row} {cs : List LV} : rowOf (h ++ [⟨0, cs⟩]) h.length 0 = some cs := by
  unfold rowOf
  rw [List.getElem?_append_right (Nat.le_refl _), Nat.sub_self]; rfl
theorem rowOf_appl {h t : List Row} {k v : Nat} (hk : k < h.length) : rowOf (h ++ t) k v = rowOf h k v := by
  unfold rowOf
  rw [List.getElem?_append_left hk]
theorem at_rowOf {h : List Row} {k v : Nat} {cs : List LV} (e : rowOf h k v = some cs) : h[k]? = some ⟨v, cs⟩ := by
  unfold rowOf at e
  cases hk : h[k]? with
  | none => rw [hk] at e; cases e
  | some r =>
    rw [hk] at e
    simp only at e
    split at e
    · rename_i hv
      simp only [Option.some.injEq] at e
      subst hv; subst e; rfl
    · cases e
theorem rowOf_lt {h : List Row} {k v : Nat} {cs : List LV} (e : rowOf h k v = some cs) : k < h.length := (List.getElem?_eq_some_iff.1 (at_rowOf e)).1
/-- The heap between two rounds: the vertices, the results, what has been gathered. -/
structure HB (h : List Row) (V : LV) (ko q : Nat) (cells : List LV) : Prop where
  r0 : rowOf h 0 0 = some [V]
  r1 : rowOf h 1 0 = some [.nils]
  r2 : rowOf h 2 0 = some [.i 0]
  r3 : rowOf h 3 0 = some [if q = 0 then .nils else .sl ko (q - 1) 0 q 27 q]
  ro : q ≠ 0 → rowOf h ko (q - 1) = some cells ∧ 4 ≤ ko
  rl : q = 0 → cells = []
  sz : cells.length = q * 27
  at' : cells.all atomB = true
theorem rowOf_seq {h : List Row} {k v : Nat} {cs : List LV} (hk : k < h.length) : rowOf (h.set k ⟨v, cs⟩) k v = some cs := by
  unfold rowOf
  rw [List.getElem?_set_self hk]; simp
theorem rowOf_sne {h : List Row} {j k v : Nat} {x : Row} (hj : j ≠ k) : rowOf (h.set j x) k v = rowOf h k v := by
  unfold rowOf
  rw [List.getElem?_set_ne hj]
theorem HB.first {h : List Row} {V : LV} {ko : Nat} {cells : List LV} (H : HB h V ko 0 cells) (t : Row) (W : List LV) (hW : W.length = 27) (ha : W.all atomB = true) :
    HB (((h ++ [t]) ++ [(⟨0, W⟩ : Row)]).set 3 ⟨0, [.sl (h ++ [t]).length 0 0 1 27 1]⟩) V (h ++ [t]).length 1 (cells ++ W) := by
  have l0 := rowOf_lt H.r0
  have l1 := rowOf_lt H.r1
  have l2 := rowOf_lt H.r2
  have l3 := rowOf_lt H.r3
  have g : ∀ k v, k < h.length → k ≠ 3 → rowOf (((h ++ [t]) ++ [(⟨0, W⟩ : Row)]).set 3 ⟨0, [.sl (h ++ [t]).length 0 0 1 27 1]⟩) k v = rowOf h k v := fun k v hk h3 => by
    rw [rowOf_sne (Ne.symm h3), rowOf_appl (by simp; omega), rowOf_appl hk]
  have hc := H.rl rfl
  subst hc
  refine ⟨(g 0 0 l0 (by omega)).trans H.r0, (g 1 0 l1 (by omega)).trans H.r1, (g 2 0 l2 (by omega)).trans H.r2, rowOf_seq (by simp; omega), fun _ => ⟨?_, by simp; omega⟩, fun h => by omega, by simp [hW], by simpa using ha⟩
  rw [rowOf_sne (by simp; omega)]
  exact rowOf_app1
theorem HB.next {h : List Row} {V : LV} {ko q : Nat} {cells : List LV} (H : HB h V ko (q + 1) cells) (t : Row) (W : List LV) (hW : W.length = 27) (ha : W.all atomB = true) :
    HB (((h ++ [t]).set ko ⟨q + 1, cells ++ W⟩).set 3 ⟨0, [.sl ko (q + 1) 0 (q + 2) 27 (q + 2)]⟩) V ko (q + 2) (cells ++ W) := by
  have l0 := rowOf_lt H.r0
  have l1 := rowOf_lt H.r1
  have l2 := rowOf_lt H.r2
  have l3 := rowOf_lt H.r3
  obtain ⟨ro, k4⟩ := H.ro (by omega)
  have lo := rowOf_lt ro
  have g : ∀ k v, k < h.length → k ≠ 3 → k ≠ ko → rowOf (((h ++ [t]).set ko ⟨q + 1, cells ++ W⟩).set 3 ⟨0, [.sl ko (q + 1) 0 (q + 2) 27 (q + 2)]⟩) k v = rowOf h k v := fun k v hk h3 h4 => by
    rw [rowOf_sne (Ne.symm h3), rowOf_sne (Ne.symm h4), rowOf_appl hk]
  refine ⟨(g 0 0 l0 (by omega) (by omega)).trans H.r0, (g 1 0 l1 (by omega) (by omega)).trans H.r1, (g 2 0 l2 (by omega) (by omega)).trans H.r2, rowOf_seq (by simp; omega), fun _ => ⟨?_, k4⟩, fun h => by omega, by rw [List.length_append, H.sz, hW]; omega, by rw [List.all_append, H.at', ha]; rfl⟩
  rw [rowOf_sne (by omega)]
  exact rowOf_seq (by simp; omega)
theorem V9_atom (vl : List Int) (n : Nat) : (V9 vl n).all atomB = true := rfl
section
variable {vl : List Int} {nv : Nat} {V : LV} (hV : SlE 9 nv vl V)
include hV
theorem body_ok (K : Nat) (h : List Row) (ko q : Nat) (cells : List LV) (H : HB h V ko q cells) (hq : q < 10000) (a b c : Nat) (ha : a < nv) (hb : b < nv) (hc : c < nv) :
    ∃ T' h' ko', evCode (evF cm K) (K + 10) 0 cB (T0 (.im [.i a, .i b, .i c] 3 true), h) = some (.nrm, (T', h')) ∧ HB h' V ko' (q + 1) (cells ++ (V9 vl a ++ V9 vl b ++ V9 vl c)) := by
  obtain ⟨ra, ia⟩ := ix9 hV a ha
  obtain ⟨rb, ib⟩ := ix9 hV b hb
  obtain ⟨rc, ic⟩ := ix9 hV c hc
  simp only [V9, List.cons_append, List.nil_append] at ia ib ic
  have a1 : ¬ (a : Int) < 0 := by omega
  have b1 : ¬ (b : Int) < 0 := by omega
  have c1 : ¬ (c : Int) < 0 := by omega
  have a2 : ¬ (nv : Int) ≤ a := by omega
  have b2 : ¬ (nv : Int) ≤ b := by omega
  have c2 : ¬ (nv : Int) ≤ c := by omega
  have l0 := rowOf_lt H.r0
  have l3 := rowOf_lt H.r3
  have p0 : ∀ x : Row, rowOf (h ++ [x]) 0 0 = some [V] := fun x => (rowOf_appl l0).trans H.r0
  have p3 := fun x : Row => (rowOf_appl (t := [x]) l3).trans H.r3
  cases q with
  | zero =>
    simp only [if_true] at p3
    have s3 : ∀ (x y : Row) z, rowOf (h ++ [x, y]) 3 z = rowOf h 3 z := fun x y z => rowOf_appl l3
    have s3' : ∀ (x y : Row), rowOf (h ++ [x] ++ [y]) 3 0 = rowOf (h ++ [x]) 3 0 := fun x y => rowOf_appl (by simp; omega)
    simp -implicitDefEqProofs (maxSteps := 2000000) only [cB, cBi, T0, V9, ia, ib, ic, Nat.le_add_left, a1, b1, c1, a2, b2, c2, hV.len, hV.cells, p0, p3, s3, s3', app1_0, rowOf_app1, push_cast, Nat.reduceAdd, Nat.reduceMul, Nat.reduceSub, Nat.reduceLT, Nat.reduceLeDiff, Nat.reduceEqDiff, Nat.reducePow, Int.reduceToNat, Int.reduceLT, Int.reduceLE, Int.reduceNeg, Int.reduceEq, Int.reducePow, reduceIte, reduceCtorEq, Int.reduceMul, Int.reduceAdd, Int.reduceSub, Int.reduceMod, Int.reduceDiv, Int.reduceTDiv, Int.reduceTMod, iter_s]
    exact ⟨_, _, _, rfl, H.first _ (V9 vl a ++ V9 vl b ++ V9 vl c) rfl rfl⟩
  | succ q =>
    obtain ⟨ro, k4⟩ := H.ro (by omega)
    have lo := rowOf_lt ro
    have sz := H.sz
    have hat := H.at'
    have nz : ¬ q + 1 = 0 := by omega
    have p3 : ∀ x : Row, rowOf (h ++ [x]) 3 0 = some [.sl ko q 0 (q + 1) 27 (q + 1)] := fun x => by rw [p3, if_neg nz]; rfl
    have po : ∀ x : Row, rowOf (h ++ [x]) ko q = some cells := fun x => (rowOf_appl lo).trans ro
    have s3 : ∀ (x y : Row) , rowOf ((h ++ [x]).set ko y) 3 0 = rowOf (h ++ [x]) 3 0 := fun x y => rowOf_sne (by omega)
    have fin := fun t => H.next t (V9 vl a ++ V9 vl b ++ V9 vl c) rfl rfl
    generalize hq1 : q + 1 = q1 at *
    have tk : List.take (q1 * 27) cells = cells := List.take_of_length_le (by omega)
    have g1 : q1 * 27 ≤ q1 * 27 := Nat.le_refl _
    have g2 : ¬ q1 + 1 ≤ q1 := by omega
    have g3 : q1 + 1 ≤ 9223372036854775807 := by omega
    have g4 : (q1 + 1) * 216 ≤ 140737488355328 := by omega
    simp -implicitDefEqProofs (maxSteps := 300000) only [cB, cBi, T0, V9, ia, ib, ic, Nat.le_add_left, a1, b1, c1, a2, b2, c2, hV.len, hV.cells, p0, p3, po, s3, tk, hat, sz, g1, g2, g3, g4, app1_0, rowOf_app1, push_cast, Nat.reduceAdd, Nat.reduceMul, Nat.reduceSub, Nat.reduceLT, Nat.reduceLeDiff, Nat.reduceEqDiff, Nat.reducePow, Int.reduceToNat, Int.reduceLT, Int.reduceLE, Int.reduceNeg, Int.reduceEq, Int.reducePow, reduceIte, reduceCtorEq, Int.reduceMul, Int.reduceAdd, Int.reduceSub, Int.reduceMod, Int.reduceDiv, Int.reduceTDiv, Int.reduceTMod, iter_s]
    subst hq1
    exact ⟨_, _, _, rfl, fin _⟩
theorem body_bad (K : Nat) (h : List Row) (ko q : Nat) (cells : List LV) (H : HB h V ko q cells) (a b c : Int) (hb : (a < 0 ∨ (nv : Int) ≤ a) ∨ (b < 0 ∨ (nv : Int) ≤ b) ∨ (c < 0 ∨ (nv : Int) ≤ c)) :
    ∃ T' h', evCode (evF cm K) (K + 10) 0 cB (T0 (.im [.i a, .i b, .i c] 3 true), h) = some (.ret, (T', h')) ∧ rowOf h' 1 0 = some [.nils] ∧ rowOf h' 2 0 = some [.i 10] := by
  have l0 := rowOf_lt H.r0
  have l1 := rowOf_lt H.r1
  have l2 := rowOf_lt H.r2
  have p0 : ∀ x : Row, rowOf (h ++ [x]) 0 0 = some [V] := fun x => (rowOf_appl l0).trans H.r0
  have p1 : ∀ x : Row, rowOf (h ++ [x]) 1 0 = some [.nils] := fun x => (rowOf_appl l1).trans H.r1
  have p2 : ∀ x : Row, rowOf (h ++ [x]) 2 0 = some [.i 0] := fun x => (rowOf_appl l2).trans H.r2
  have s2 : ∀ (x y : Row), rowOf ((h ++ [x]).set 1 y) 2 0 = rowOf (h ++ [x]) 2 0 := fun x y => rowOf_sne (by omega)
  have fin : ∀ x : Row, rowOf (((h ++ [x]).set 1 ⟨0, [.nils]⟩).set 2 ⟨0, [.i 10]⟩) 1 0 = some [.nils] ∧ rowOf (((h ++ [x]).set 1 ⟨0, [.nils]⟩).set 2 ⟨0, [.i 10]⟩) 2 0 = some [.i 10] := fun x =>
    ⟨by rw [rowOf_sne (by omega)]; exact rowOf_seq (by simp; omega), rowOf_seq (by simp; omega)⟩
  have three : ∀ x : Int, ¬ (x < 0 ∨ (nv : Int) ≤ x) → ∃ n : Nat, x = n ∧ n < nv := fun x hx => ⟨x.toNat, by omega, by omega⟩
  by_cases ha : a < 0 ∨ (nv : Int) ≤ a
  · clear hb
    by_cases a1 : a < 0
    · simp -implicitDefEqProofs (maxSteps := 2000000) only [cB, cBi, T0, a1, hV.len, hV.cells, p0, p1, p2, s2, app1_0, rowOf_app1, push_cast, Nat.reduceAdd, Nat.reduceMul, Nat.reduceSub, Nat.reduceLT, Nat.reduceLeDiff, Nat.reduceEqDiff, Nat.reducePow, Int.reduceToNat, Int.reduceLT, Int.reduceLE, Int.reduceNeg, Int.reduceEq, Int.reducePow, reduceIte, reduceCtorEq, Int.reduceMul, Int.reduceAdd, Int.reduceSub, Int.reduceMod, Int.reduceDiv, Int.reduceTDiv, Int.reduceTMod, iter_s]
      exact ⟨_, _, rfl, fin _⟩
    · have a2 : (nv : Int) ≤ a := by omega
      simp -implicitDefEqProofs (maxSteps := 2000000) only [cB, cBi, T0, a1, a2, hV.len, hV.cells, p0, p1, p2, s2, app1_0, rowOf_app1, push_cast, Nat.reduceAdd, Nat.reduceMul, Nat.reduceSub, Nat.reduceLT, Nat.reduceLeDiff, Nat.reduceEqDiff, Nat.reducePow, Int.reduceToNat, Int.reduceLT, Int.reduceLE, Int.reduceNeg, Int.reduceEq, Int.reducePow, reduceIte, reduceCtorEq, Int.reduceMul, Int.reduceAdd, Int.reduceSub, Int.reduceMod, Int.reduceDiv, Int.reduceTDiv, Int.reduceTMod, iter_s]
      exact ⟨_, _, rfl, fin _⟩
  obtain ⟨na, rfl, hna⟩ := three a ha
  obtain ⟨ra, ia⟩ := ix9 hV na hna
  simp only [V9, List.cons_append, List.nil_append] at ia
  have a1 : ¬ (na : Int) < 0 := by omega
  have a2 : ¬ (nv : Int) ≤ na := by omega
  by_cases hb' : b < 0 ∨ (nv : Int) ≤ b
  · clear hb
    by_cases b1 : b < 0
    · simp -implicitDefEqProofs (maxSteps := 2000000) only [cB, cBi, T0, ia, Nat.le_add_left, a1, a2, b1, hV.len, hV.cells, p0, p1, p2, s2, app1_0, rowOf_app1, push_cast, Nat.reduceAdd, Nat.reduceMul, Nat.reduceSub, Nat.reduceLT, Nat.reduceLeDiff, Nat.reduceEqDiff, Nat.reducePow, Int.reduceToNat, Int.reduceLT, Int.reduceLE, Int.reduceNeg, Int.reduceEq, Int.reducePow, reduceIte, reduceCtorEq, Int.reduceMul, Int.reduceAdd, Int.reduceSub, Int.reduceMod, Int.reduceDiv, Int.reduceTDiv, Int.reduceTMod, iter_s]
      exact ⟨_, _, rfl, fin _⟩
    · have b2 : (nv : Int) ≤ b := by omega
      simp -implicitDefEqProofs (maxSteps := 2000000) only [cB, cBi, T0, ia, Nat.le_add_left, a1, a2, b1, b2, hV.len, hV.cells, p0, p1, p2, s2, app1_0, rowOf_app1, push_cast, Nat.reduceAdd, Nat.reduceMul, Nat.reduceSub, Nat.reduceLT, Nat.reduceLeDiff, Nat.reduceEqDiff, Nat.reducePow, Int.reduceToNat, Int.reduceLT, Int.reduceLE, Int.reduceNeg, Int.reduceEq, Int.reducePow, reduceIte, reduceCtorEq, Int.reduceMul, Int.reduceAdd, Int.reduceSub, Int.reduceMod, Int.reduceDiv, Int.reduceTDiv, Int.reduceTMod, iter_s]
      exact ⟨_, _, rfl, fin _⟩
  obtain ⟨nb, rfl, hnb⟩ := three b hb'
  obtain ⟨rb, ib⟩ := ix9 hV nb hnb
  simp only [V9, List.cons_append, List.nil_append] at ib
  have b1 : ¬ (nb : Int) < 0 := by omega
  have b2 : ¬ (nv : Int) ≤ nb := by omega
  have hc : c < 0 ∨ (nv : Int) ≤ c := by omega
  clear hb
  by_cases c1 : c < 0
  · simp -implicitDefEqProofs (maxSteps := 2000000) only [cB, cBi, T0, ia, ib, Nat.le_add_left, a1, a2, b1, b2, c1, hV.len, hV.cells, p0, p1, p2, s2, app1_0, rowOf_app1, push_cast, Nat.reduceAdd, Nat.reduceMul, Nat.reduceSub, Nat.reduceLT, Nat.reduceLeDiff, Nat.reduceEqDiff, Nat.reducePow, Int.reduceToNat, Int.reduceLT, Int.reduceLE, Int.reduceNeg, Int.reduceEq, Int.reducePow, reduceIte, reduceCtorEq, Int.reduceMul, Int.reduceAdd, Int.reduceSub, Int.reduceMod, Int.reduceDiv, Int.reduceTDiv, Int.reduceTMod, iter_s]
    exact ⟨_, _, rfl, fin _⟩
  · have c2 : (nv : Int) ≤ c := by omega
    simp -implicitDefEqProofs (maxSteps := 2000000) only [cB, cBi, T0, ia, ib, Nat.le_add_left, a1, a2, b1, b2, c1, c2, hV.len, hV.cells, p0, p1, p2, s2, app1_0, rowOf_app1, push_cast, Nat.reduceAdd, Nat.reduceMul, Nat.reduceSub, Nat.reduceLT, Nat.reduceLeDiff, Nat.reduceEqDiff, Nat.reducePow, Int.reduceToNat, Int.reduceLT, Int.reduceLE, Int.reduceNeg, Int.reduceEq, Int.reducePow, reduceIte, reduceCtorEq, Int.reduceMul, Int.reduceAdd, Int.reduceSub, Int.reduceMod, Int.reduceDiv, Int.reduceTDiv, Int.reduceTMod, iter_s]
    exact ⟨_, _, rfl, fin _⟩
end
end Go.Proofs.Yteeghebaankmlaa
