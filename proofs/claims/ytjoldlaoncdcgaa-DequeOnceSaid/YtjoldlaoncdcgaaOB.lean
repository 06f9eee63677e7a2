/- A deque's operation, step by step, as the evaluator answers: pushes. -/
import Derived.Test.YtjoldlaoncdcgaaOA
set_option linter.unusedSimpArgs false
set_option linter.unusedVariables false
set_option maxRecDepth 100000
set_option maxHeartbeats 16000000
namespace Go.Proofs.Ytjoldlaoncdcgaa
open Go
/-- What a step leaves. -/
structure OpRes (h : List Row) (M : AM) (row : Tg → Nat) (r : Nat) (h' : List Row) (M' : AM) (row' : Tg → Nat) (cs' : List LV) : Prop where
  mem : MemAt h' M' row'
  rm : row' .mem = row .mem
  fr : Frm (W (own M row) r) (W (own M' row') r) h h'
  op : rowOf h' r 0 = some cs'
  no : ¬ own M' row' r
theorem fin_res {h h2 : List Row} {M M' : AM} {row row' : Tg → Nat} {r : Nat} {cs : List LV} (t : List Row) (H : MemAt h M row) (H2 : MemAt h2 M' row') (F : Frm (own M row) (own M' row') (h ++ t) h2) (hm : row' .mem = row .mem) (hr : r < h.length) (ho : ¬ own M row r) : OpRes h M row r (h2.set r ⟨0, cs⟩) M' row' cs := by
  obtain ⟨a, b, c⟩ := fin_op (cs := cs) H2 (Frm.box H t F) hr ho
  exact ⟨a, hm, b, c, (Frm.box H t F).apart hr ho⟩
/-- Where an operation is ahead of a step. -/
structure OpPre (h : List Row) (M : AM) (row : Tg → Nat) (r tt a c : Nat) (cs : List LV) : Prop where
  mem : MemAt h M row
  op : rowOf h r 0 = some cs
  no : ¬ own M row r
  tt : tt < M.n
  na : a + c + 2 ≤ M.na
  c0 : 0 < c
  big : M.na ≤ 65536
  ops : M.ops < 1000000000
theorem OpPre.box {h : List Row} {M : AM} {row : Tg → Nat} {r tt a c : Nat} {cs : List LV} (P : OpPre h M row r tt a c cs) (x : List Row) : OpPre (h ++ x) M row r tt a c cs :=
  ⟨P.mem.app x, by rw [rowOf_app_lt (rowOf_lt P.op)]; exact P.op, P.no, P.tt, P.na, P.c0, P.big, P.ops⟩
theorem boxRow (h : List Row) (x : Row) : rowOf (h ++ [x]) h.length 0 = rowOf [x] 0 0 := by
  obtain ⟨v, cs⟩ := x; unfold rowOf; rw [List.getElem?_append_right (Nat.le_refl _)]; simp
section
variable {h : List Row} {M : AM} {row : Tg → Nat} {r tt a c : Nat} {w : Int} {tk : Bool} {b t v : Int} {f : LV}
theorem pushBottom_ok (k : Nat) (P : OpPre h M row r tt a c (opC a c f w tk b t v)) :
    ∃ h', evF cm (k + 113) 22 [.p r 0 0, .agg [.p (row .mem) 0 0, .i tt]] h 0 = some (.i 0, h') ∧ OpRes h M row r h' (M.load tt (a + 1)) row (opC a c (.f 28 []) w tk (M.av (a + 1)) t v) := by
  have P1 := P.box [⟨0, [.p (row .mem) 0 0, .i tt]⟩]
  have hl := rowOf_lt P.op
  have := P.na
  have := P.big
  have qb := boxRow h ⟨0, [.p (row .mem) 0 0, .i tt]⟩
  have q0 := P1.op
  obtain ⟨h2, e1, H2, F2⟩ := opload_ok k _ M row P1.mem r 5 _ P1.op (by simp [opC]) P.no tt (a + 1) P.tt (by omega) P.ops (.p r 0 0)
  have hl2 : r < h2.length := Nat.lt_of_lt_of_le (by rw [List.length_append]; omega) F2.le
  have e2 := fun k => opthen_ok k (h2.set r ⟨0, opC a c f w tk (M.av (a + 1)) t v⟩) r a c f 28 w tk (M.av (a + 1)) t v (rowOf_set_eq hl2)
  have q2 : ∀ cs, rowOf (h2.set r ⟨0, cs⟩) r 0 = some cs := fun cs => rowOf_set_eq hl2
  have w1 : IntKind.i64.wrap ((a : Int) + 1) = ((a + 1 : Nat) : Int) := by rw [w64 _ (by omega) (by omega)]; omega
  unfold opC at q0 e1 e2
  refine ⟨h2.set r ⟨0, opC a c (.f 28 []) w tk (M.av (a + 1)) t v⟩, ?_, fin_res _ P.mem H2 F2 rfl hl P.no⟩
  unfold opC
  generalize ((a + 1 : Nat) : Int) = a1 at *
  rw [evX_fun (m := c22) rfl _ _ _ _ P.mem.ne0 rfl]
  simp -implicitDefEqProofs only [c22, q0, q2, qb, e1, e2, w1,  List.set_set, outG, push_cast, Nat.reduceAdd, Nat.reduceMul, Nat.reduceSub, Nat.reduceLT, Nat.reduceLeDiff, Nat.reduceEqDiff, Nat.reducePow, Int.reduceToNat, Int.reduceLT, Int.reduceLE, Int.reduceNeg, Int.reduceEq, Int.reducePow, reduceIte, reduceCtorEq, Int.reduceMul, Int.reduceAdd, Int.reduceSub, Int.reduceMod, Int.reduceDiv, Int.reduceTDiv, Int.reduceTMod, iter_s]
theorem pushTop_ok1 (k : Nat) (P : OpPre h M row r tt a c (opC a c f w tk b t v)) (hw : IntKind.i64.wrap (b - M.av a) = b - M.av a) (hx : (c : Int) ≤ b - M.av a) :
    ∃ h', evF cm (k + 113) 28 [.p r 0 0, .agg [.p (row .mem) 0 0, .i tt]] h 0 = some (.i 0, h') ∧ OpRes h M row r h' (M.load tt (a)) row (opC a c f 4 tk b (M.av (a)) v) := by
  have P1 := P.box [⟨0, [.p (row .mem) 0 0, .i tt]⟩]
  have hl := rowOf_lt P.op
  have := P.na
  have := P.big
  have qb := boxRow h ⟨0, [.p (row .mem) 0 0, .i tt]⟩
  have q0 := P1.op
  obtain ⟨h2, e1, H2, F2⟩ := opload_ok k _ M row P1.mem r 6 _ P1.op (by simp [opC]) P.no tt (a) P.tt (by omega) P.ops (.p r 0 0)
  have hl2 : r < h2.length := Nat.lt_of_lt_of_le (by rw [List.length_append]; omega) F2.le
  have e2 := fun k => opend_ok k (h2.set r ⟨0, opC a c f w tk b (M.av (a)) v⟩) r a c f w 4 tk b (M.av (a)) v (rowOf_set_eq hl2)
  have q2 : ∀ cs, rowOf (h2.set r ⟨0, cs⟩) r 0 = some cs := fun cs => rowOf_set_eq hl2
  have w1 : IntKind.i64.wrap ((a : Int) + 0) = (a : Int) := by rw [w64 _ (by omega) (by omega)]; omega
  unfold opC at q0 e1 e2
  refine ⟨h2.set r ⟨0, opC a c f 4 tk b (M.av (a)) v⟩, ?_, fin_res _ P.mem H2 F2 rfl hl P.no⟩
  unfold opC
  rw [evX_fun (m := c28) rfl _ _ _ _ P.mem.ne0 rfl]
  simp -implicitDefEqProofs only [c28, q0, q2, qb, e1, e2, w1, hx, hw, List.set_set, outG, push_cast, Nat.reduceAdd, Nat.reduceMul, Nat.reduceSub, Nat.reduceLT, Nat.reduceLeDiff, Nat.reduceEqDiff, Nat.reducePow, Int.reduceToNat, Int.reduceLT, Int.reduceLE, Int.reduceNeg, Int.reduceEq, Int.reducePow, reduceIte, reduceCtorEq, Int.reduceMul, Int.reduceAdd, Int.reduceSub, Int.reduceMod, Int.reduceDiv, Int.reduceTDiv, Int.reduceTMod, iter_s]
theorem pushTop_ok2 (k : Nat) (P : OpPre h M row r tt a c (opC a c f w tk b t v)) (hw : IntKind.i64.wrap (b - M.av a) = b - M.av a) (hx : ¬ (c : Int) ≤ b - M.av a) :
    ∃ h', evF cm (k + 113) 28 [.p r 0 0, .agg [.p (row .mem) 0 0, .i tt]] h 0 = some (.i 0, h') ∧ OpRes h M row r h' (M.load tt (a)) row (opC a c (.f 36 []) w tk b (M.av (a)) v) := by
  have P1 := P.box [⟨0, [.p (row .mem) 0 0, .i tt]⟩]
  have hl := rowOf_lt P.op
  have := P.na
  have := P.big
  have qb := boxRow h ⟨0, [.p (row .mem) 0 0, .i tt]⟩
  have q0 := P1.op
  obtain ⟨h2, e1, H2, F2⟩ := opload_ok k _ M row P1.mem r 6 _ P1.op (by simp [opC]) P.no tt (a) P.tt (by omega) P.ops (.p r 0 0)
  have hl2 : r < h2.length := Nat.lt_of_lt_of_le (by rw [List.length_append]; omega) F2.le
  have e2 := fun k => opthen_ok k (h2.set r ⟨0, opC a c f w tk b (M.av (a)) v⟩) r a c f 36 w tk b (M.av (a)) v (rowOf_set_eq hl2)
  have q2 : ∀ cs, rowOf (h2.set r ⟨0, cs⟩) r 0 = some cs := fun cs => rowOf_set_eq hl2
  have w1 : IntKind.i64.wrap ((a : Int) + 0) = (a : Int) := by rw [w64 _ (by omega) (by omega)]; omega
  unfold opC at q0 e1 e2
  refine ⟨h2.set r ⟨0, opC a c (.f 36 []) w tk b (M.av (a)) v⟩, ?_, fin_res _ P.mem H2 F2 rfl hl P.no⟩
  unfold opC
  rw [evX_fun (m := c28) rfl _ _ _ _ P.mem.ne0 rfl]
  simp -implicitDefEqProofs only [c28, q0, q2, qb, e1, e2, w1, hx, hw, List.set_set, outG, push_cast, Nat.reduceAdd, Nat.reduceMul, Nat.reduceSub, Nat.reduceLT, Nat.reduceLeDiff, Nat.reduceEqDiff, Nat.reducePow, Int.reduceToNat, Int.reduceLT, Int.reduceLE, Int.reduceNeg, Int.reduceEq, Int.reducePow, reduceIte, reduceCtorEq, Int.reduceMul, Int.reduceAdd, Int.reduceSub, Int.reduceMod, Int.reduceDiv, Int.reduceTDiv, Int.reduceTMod, iter_s]
theorem pushSlot_ok (k : Nat) (n : Nat) (hn : b = n) (P : OpPre h M row r tt a c (opC a c f w tk b t v)) :
    ∃ h' row', evF cm (k + 113) 36 [.p r 0 0, .agg [.p (row .mem) 0 0, .i tt]] h 0 = some (.i 0, h') ∧ OpRes h M row r h' (M.store tt (a + 2 + n % c) v) row' (opC a c (.f 46 []) w tk b t v) := by
  have P1 := P.box [⟨0, [.p (row .mem) 0 0, .i tt]⟩]
  have hl := rowOf_lt P.op
  have := P.na
  have := P.big
  have qb := boxRow h ⟨0, [.p (row .mem) 0 0, .i tt]⟩
  have q0 := P1.op
  have hm : n % c < c := Nat.mod_lt _ P.c0
  have e0 : ∀ k lim, evF cm (k + 1) 45 [.p r 0 0, .i b] (h ++ [⟨0, [.p (row .mem) 0 0, .i tt]⟩]) lim = some (.i ((a + 2 + n % c : Nat) : Int), h ++ [⟨0, [.p (row .mem) 0 0, .i tt]⟩]) := fun k lim => by have e := slot_ok k lim _ r a c n f w tk b t v P1.op (by omega) P.c0 (by omega); rw [← hn] at e; exact e
  obtain ⟨h2, row2, e1, H2, hm2, F2⟩ := store_ok (k + 2) _ M row P1.mem tt (a + 2 + n % c) v P.tt (by omega) P.ops
  have hl2 : r < h2.length := Nat.lt_of_lt_of_le (by rw [List.length_append]; omega) F2.le
  have q2 := F2.keep P1.op P.no
  have e2 := fun k => opthen_ok k h2 r a c f 46 w tk b t v q2
  unfold opC at q0 e2
  refine ⟨h2.set r ⟨0, opC a c (.f 46 []) w tk b t v⟩, row2, ?_, fin_res _ P.mem H2 F2 hm2 hl P.no⟩
  unfold opC
  generalize ((a + 2 + n % c : Nat) : Int) = a1 at *
  rw [evX_fun (m := c36) rfl _ _ _ _ P.mem.ne0 rfl]
  simp -implicitDefEqProofs only [c36, q0, qb, e0, call_Q, quietR_mk, flat, flatL, e1, e2, outG, push_cast, Nat.reduceAdd, Nat.reduceMul, Nat.reduceSub, Nat.reduceLT, Nat.reduceLeDiff, Nat.reduceEqDiff, Nat.reducePow, Int.reduceToNat, Int.reduceLT, Int.reduceLE, Int.reduceNeg, Int.reduceEq, Int.reducePow, reduceIte, reduceCtorEq, Int.reduceMul, Int.reduceAdd, Int.reduceSub, Int.reduceMod, Int.reduceDiv, Int.reduceTDiv, Int.reduceTMod, iter_s]
theorem pushDone_ok (k : Nat) (P : OpPre h M row r tt a c (opC a c f w tk b t v)) (hw : IntKind.i64.wrap (b + 1) = b + 1) :
    ∃ h' row', evF cm (k + 113) 46 [.p r 0 0, .agg [.p (row .mem) 0 0, .i tt]] h 0 = some (.i 0, h') ∧ OpRes h M row r h' (M.store tt (a + 1) (b + 1)) row' (opC a c f 1 tk b t v) := by
  have P1 := P.box [⟨0, [.p (row .mem) 0 0, .i tt]⟩]
  have hl := rowOf_lt P.op
  have := P.na
  have := P.big
  have qb := boxRow h ⟨0, [.p (row .mem) 0 0, .i tt]⟩
  have q0 := P1.op
  obtain ⟨h2, row2, e1, H2, hm2, F2⟩ := store_ok (k + 2) _ M row P1.mem tt (a + 1) (b + 1) P.tt (by omega) P.ops
  have hl2 : r < h2.length := Nat.lt_of_lt_of_le (by rw [List.length_append]; omega) F2.le
  have q2 := F2.keep P1.op P.no
  have e2 := fun k => opend_ok k h2 r a c f w 1 tk b t v q2
  have w1 : IntKind.i64.wrap ((a : Int) + 1) = ((a + 1 : Nat) : Int) := by rw [w64 _ (by omega) (by omega)]; omega
  unfold opC at q0 e2
  refine ⟨h2.set r ⟨0, opC a c f 1 tk b t v⟩, row2, ?_, fin_res _ P.mem H2 F2 hm2 hl P.no⟩
  unfold opC
  generalize ((a + 1 : Nat) : Int) = a1 at *
  rw [evX_fun (m := c46) rfl _ _ _ _ P.mem.ne0 rfl]
  simp -implicitDefEqProofs only [c46, q0, qb, e1, e2, w1, hw, outG, push_cast, Nat.reduceAdd, Nat.reduceMul, Nat.reduceSub, Nat.reduceLT, Nat.reduceLeDiff, Nat.reduceEqDiff, Nat.reducePow, Int.reduceToNat, Int.reduceLT, Int.reduceLE, Int.reduceNeg, Int.reduceEq, Int.reducePow, reduceIte, reduceCtorEq, Int.reduceMul, Int.reduceAdd, Int.reduceSub, Int.reduceMod, Int.reduceDiv, Int.reduceTDiv, Int.reduceTMod, iter_s]
theorem popBottom_ok (k : Nat) (P : OpPre h M row r tt a c (opC a c f w tk b t v)) (hw : IntKind.i64.wrap (M.av (a + 1) - 1) = M.av (a + 1) - 1) :
    ∃ h', evF cm (k + 113) 20 [.p r 0 0, .agg [.p (row .mem) 0 0, .i tt]] h 0 = some (.i 0, h') ∧ OpRes h M row r h' (M.load tt (a + 1)) row (opC a c (.f 26 []) w tk (M.av (a + 1) - 1) t v) := by
  have P1 := P.box [⟨0, [.p (row .mem) 0 0, .i tt]⟩]
  have hl := rowOf_lt P.op
  have := P.na
  have := P.big
  have qb := boxRow h ⟨0, [.p (row .mem) 0 0, .i tt]⟩
  have q0 := P1.op
  obtain ⟨h2, e1, H2, F2⟩ := opload_ok k _ M row P1.mem r 5 _ P1.op (by simp [opC]) P.no tt (a + 1) P.tt (by omega) P.ops (.p r 0 0)
  have hl2 : r < h2.length := Nat.lt_of_lt_of_le (by rw [List.length_append]; omega) F2.le
  have e2 := fun k => opthen_ok k (h2.set r ⟨0, opC a c f w tk (M.av (a + 1) - 1) t v⟩) r a c f 26 w tk (M.av (a + 1) - 1) t v (rowOf_set_eq hl2)
  have q2 : ∀ cs, rowOf (h2.set r ⟨0, cs⟩) r 0 = some cs := fun cs => rowOf_set_eq hl2
  have w1 : IntKind.i64.wrap ((a : Int) + 1) = ((a + 1 : Nat) : Int) := by rw [w64 _ (by omega) (by omega)]; omega
  unfold opC at q0 e1 e2
  refine ⟨h2.set r ⟨0, opC a c (.f 26 []) w tk (M.av (a + 1) - 1) t v⟩, ?_, fin_res _ P.mem H2 F2 rfl hl P.no⟩
  unfold opC
  generalize ((a + 1 : Nat) : Int) = a1 at *
  rw [evX_fun (m := c20) rfl _ _ _ _ P.mem.ne0 rfl]
  simp -implicitDefEqProofs only [c20, q0, q2, qb, e1, e2, w1, hw, List.set_set, outG, push_cast, Nat.reduceAdd, Nat.reduceMul, Nat.reduceSub, Nat.reduceLT, Nat.reduceLeDiff, Nat.reduceEqDiff, Nat.reducePow, Int.reduceToNat, Int.reduceLT, Int.reduceLE, Int.reduceNeg, Int.reduceEq, Int.reducePow, reduceIte, reduceCtorEq, Int.reduceMul, Int.reduceAdd, Int.reduceSub, Int.reduceMod, Int.reduceDiv, Int.reduceTDiv, Int.reduceTMod, iter_s]
theorem popStore_ok (k : Nat) (P : OpPre h M row r tt a c (opC a c f w tk b t v)) :
    ∃ h' row', evF cm (k + 113) 26 [.p r 0 0, .agg [.p (row .mem) 0 0, .i tt]] h 0 = some (.i 0, h') ∧ OpRes h M row r h' (M.store tt (a + 1) b) row' (opC a c (.f 32 []) w tk b t v) := by
  have P1 := P.box [⟨0, [.p (row .mem) 0 0, .i tt]⟩]
  have hl := rowOf_lt P.op
  have := P.na
  have := P.big
  have qb := boxRow h ⟨0, [.p (row .mem) 0 0, .i tt]⟩
  have q0 := P1.op
  obtain ⟨h2, row2, e1, H2, hm2, F2⟩ := store_ok (k + 2) _ M row P1.mem tt (a + 1) b P.tt (by omega) P.ops
  have hl2 : r < h2.length := Nat.lt_of_lt_of_le (by rw [List.length_append]; omega) F2.le
  have q2 := F2.keep P1.op P.no
  have e2 := fun k => opthen_ok k h2 r a c f 32 w tk b t v q2
  have w1 : IntKind.i64.wrap ((a : Int) + 1) = ((a + 1 : Nat) : Int) := by rw [w64 _ (by omega) (by omega)]; omega
  unfold opC at q0 e2
  refine ⟨h2.set r ⟨0, opC a c (.f 32 []) w tk b t v⟩, row2, ?_, fin_res _ P.mem H2 F2 hm2 hl P.no⟩
  unfold opC
  generalize ((a + 1 : Nat) : Int) = a1 at *
  rw [evX_fun (m := c26) rfl _ _ _ _ P.mem.ne0 rfl]
  simp -implicitDefEqProofs only [c26, q0, qb, e1, e2, w1, outG, push_cast, Nat.reduceAdd, Nat.reduceMul, Nat.reduceSub, Nat.reduceLT, Nat.reduceLeDiff, Nat.reduceEqDiff, Nat.reducePow, Int.reduceToNat, Int.reduceLT, Int.reduceLE, Int.reduceNeg, Int.reduceEq, Int.reducePow, reduceIte, reduceCtorEq, Int.reduceMul, Int.reduceAdd, Int.reduceSub, Int.reduceMod, Int.reduceDiv, Int.reduceTDiv, Int.reduceTMod, iter_s]
theorem popTop_ok1 (k : Nat) (P : OpPre h M row r tt a c (opC a c f w tk b t v)) (hx : b < M.av a) :
    ∃ h', evF cm (k + 113) 32 [.p r 0 0, .agg [.p (row .mem) 0 0, .i tt]] h 0 = some (.i 0, h') ∧ OpRes h M row r h' (M.load tt (a)) row (opC a c (.f 41 []) w tk b (M.av (a)) v) := by
  have P1 := P.box [⟨0, [.p (row .mem) 0 0, .i tt]⟩]
  have hl := rowOf_lt P.op
  have := P.na
  have := P.big
  have qb := boxRow h ⟨0, [.p (row .mem) 0 0, .i tt]⟩
  have q0 := P1.op
  obtain ⟨h2, e1, H2, F2⟩ := opload_ok k _ M row P1.mem r 6 _ P1.op (by simp [opC]) P.no tt (a) P.tt (by omega) P.ops (.p r 0 0)
  have hl2 : r < h2.length := Nat.lt_of_lt_of_le (by rw [List.length_append]; omega) F2.le
  have e2 := fun k => opthen_ok k (h2.set r ⟨0, opC a c f w tk b (M.av (a)) v⟩) r a c f 41 w tk b (M.av (a)) v (rowOf_set_eq hl2)
  have q2 : ∀ cs, rowOf (h2.set r ⟨0, cs⟩) r 0 = some cs := fun cs => rowOf_set_eq hl2
  have w1 : IntKind.i64.wrap ((a : Int) + 0) = (a : Int) := by rw [w64 _ (by omega) (by omega)]; omega
  unfold opC at q0 e1 e2
  refine ⟨h2.set r ⟨0, opC a c (.f 41 []) w tk b (M.av (a)) v⟩, ?_, fin_res _ P.mem H2 F2 rfl hl P.no⟩
  unfold opC
  rw [evX_fun (m := c32) rfl _ _ _ _ P.mem.ne0 rfl]
  simp -implicitDefEqProofs only [c32, q0, q2, qb, e1, e2, w1, hx, List.set_set, outG, push_cast, Nat.reduceAdd, Nat.reduceMul, Nat.reduceSub, Nat.reduceLT, Nat.reduceLeDiff, Nat.reduceEqDiff, Nat.reducePow, Int.reduceToNat, Int.reduceLT, Int.reduceLE, Int.reduceNeg, Int.reduceEq, Int.reducePow, reduceIte, reduceCtorEq, Int.reduceMul, Int.reduceAdd, Int.reduceSub, Int.reduceMod, Int.reduceDiv, Int.reduceTDiv, Int.reduceTMod, iter_s]
theorem popTop_ok2 (k : Nat) (P : OpPre h M row r tt a c (opC a c f w tk b t v)) (hx : ¬ b < M.av a) :
    ∃ h', evF cm (k + 113) 32 [.p r 0 0, .agg [.p (row .mem) 0 0, .i tt]] h 0 = some (.i 0, h') ∧ OpRes h M row r h' (M.load tt (a)) row (opC a c (.f 42 []) w tk b (M.av (a)) v) := by
  have P1 := P.box [⟨0, [.p (row .mem) 0 0, .i tt]⟩]
  have hl := rowOf_lt P.op
  have := P.na
  have := P.big
  have qb := boxRow h ⟨0, [.p (row .mem) 0 0, .i tt]⟩
  have q0 := P1.op
  obtain ⟨h2, e1, H2, F2⟩ := opload_ok k _ M row P1.mem r 6 _ P1.op (by simp [opC]) P.no tt (a) P.tt (by omega) P.ops (.p r 0 0)
  have hl2 : r < h2.length := Nat.lt_of_lt_of_le (by rw [List.length_append]; omega) F2.le
  have e2 := fun k => opthen_ok k (h2.set r ⟨0, opC a c f w tk b (M.av (a)) v⟩) r a c f 42 w tk b (M.av (a)) v (rowOf_set_eq hl2)
  have q2 : ∀ cs, rowOf (h2.set r ⟨0, cs⟩) r 0 = some cs := fun cs => rowOf_set_eq hl2
  have w1 : IntKind.i64.wrap ((a : Int) + 0) = (a : Int) := by rw [w64 _ (by omega) (by omega)]; omega
  unfold opC at q0 e1 e2
  refine ⟨h2.set r ⟨0, opC a c (.f 42 []) w tk b (M.av (a)) v⟩, ?_, fin_res _ P.mem H2 F2 rfl hl P.no⟩
  unfold opC
  rw [evX_fun (m := c32) rfl _ _ _ _ P.mem.ne0 rfl]
  simp -implicitDefEqProofs only [c32, q0, q2, qb, e1, e2, w1, hx, List.set_set, outG, push_cast, Nat.reduceAdd, Nat.reduceMul, Nat.reduceSub, Nat.reduceLT, Nat.reduceLeDiff, Nat.reduceEqDiff, Nat.reducePow, Int.reduceToNat, Int.reduceLT, Int.reduceLE, Int.reduceNeg, Int.reduceEq, Int.reducePow, reduceIte, reduceCtorEq, Int.reduceMul, Int.reduceAdd, Int.reduceSub, Int.reduceMod, Int.reduceDiv, Int.reduceTDiv, Int.reduceTMod, iter_s]
theorem popNone_ok (k : Nat) (P : OpPre h M row r tt a c (opC a c f w tk b t v)) :
    ∃ h' row', evF cm (k + 113) 41 [.p r 0 0, .agg [.p (row .mem) 0 0, .i tt]] h 0 = some (.i 0, h') ∧ OpRes h M row r h' (M.store tt (a + 1) t) row' (opC a c f 2 tk b t v) := by
  have P1 := P.box [⟨0, [.p (row .mem) 0 0, .i tt]⟩]
  have hl := rowOf_lt P.op
  have := P.na
  have := P.big
  have qb := boxRow h ⟨0, [.p (row .mem) 0 0, .i tt]⟩
  have q0 := P1.op
  obtain ⟨h2, row2, e1, H2, hm2, F2⟩ := store_ok (k + 2) _ M row P1.mem tt (a + 1) t P.tt (by omega) P.ops
  have hl2 : r < h2.length := Nat.lt_of_lt_of_le (by rw [List.length_append]; omega) F2.le
  have q2 := F2.keep P1.op P.no
  have e2 := fun k => opend_ok k h2 r a c f w 2 tk b t v q2
  have w1 : IntKind.i64.wrap ((a : Int) + 1) = ((a + 1 : Nat) : Int) := by rw [w64 _ (by omega) (by omega)]; omega
  unfold opC at q0 e2
  refine ⟨h2.set r ⟨0, opC a c f 2 tk b t v⟩, row2, ?_, fin_res _ P.mem H2 F2 hm2 hl P.no⟩
  unfold opC
  generalize ((a + 1 : Nat) : Int) = a1 at *
  rw [evX_fun (m := c41) rfl _ _ _ _ P.mem.ne0 rfl]
  simp -implicitDefEqProofs only [c41, q0, qb, e1, e2, w1, outG, push_cast, Nat.reduceAdd, Nat.reduceMul, Nat.reduceSub, Nat.reduceLT, Nat.reduceLeDiff, Nat.reduceEqDiff, Nat.reducePow, Int.reduceToNat, Int.reduceLT, Int.reduceLE, Int.reduceNeg, Int.reduceEq, Int.reducePow, reduceIte, reduceCtorEq, Int.reduceMul, Int.reduceAdd, Int.reduceSub, Int.reduceMod, Int.reduceDiv, Int.reduceTDiv, Int.reduceTMod, iter_s]
theorem popSlot_ok1 (k : Nat) (n : Nat) (hn : b = n) (P : OpPre h M row r tt a c (opC a c f w tk b t v)) (hx : t < b) :
    ∃ h', evF cm (k + 113) 42 [.p r 0 0, .agg [.p (row .mem) 0 0, .i tt]] h 0 = some (.i 0, h') ∧ OpRes h M row r h' (M.load tt (a + 2 + n % c)) row (opC a c f 1 tk b t (M.av (a + 2 + n % c))) := by
  have P1 := P.box [⟨0, [.p (row .mem) 0 0, .i tt]⟩]
  have hl := rowOf_lt P.op
  have := P.na
  have := P.big
  have qb := boxRow h ⟨0, [.p (row .mem) 0 0, .i tt]⟩
  have q0 := P1.op
  have hm : n % c < c := Nat.mod_lt _ P.c0
  have e0 : ∀ k lim, evF cm (k + 1) 45 [.p r 0 0, .i b] (h ++ [⟨0, [.p (row .mem) 0 0, .i tt]⟩]) lim = some (.i ((a + 2 + n % c : Nat) : Int), h ++ [⟨0, [.p (row .mem) 0 0, .i tt]⟩]) := fun k lim => by have e := slot_ok k lim _ r a c n f w tk b t v P1.op (by omega) P.c0 (by omega); rw [← hn] at e; exact e
  obtain ⟨h2, e1, H2, F2⟩ := opload_ok k _ M row P1.mem r 7 _ P1.op (by simp [opC]) P.no tt (a + 2 + n % c) P.tt (by omega) P.ops (.p r 0 0)
  have hl2 : r < h2.length := Nat.lt_of_lt_of_le (by rw [List.length_append]; omega) F2.le
  have e2 := fun k => opend_ok k (h2.set r ⟨0, opC a c f w tk b t (M.av (a + 2 + n % c))⟩) r a c f w 1 tk b t (M.av (a + 2 + n % c)) (rowOf_set_eq hl2)
  have q2 : ∀ cs, rowOf (h2.set r ⟨0, cs⟩) r 0 = some cs := fun cs => rowOf_set_eq hl2
  unfold opC at q0 e1 e2
  refine ⟨h2.set r ⟨0, opC a c f 1 tk b t (M.av (a + 2 + n % c))⟩, ?_, fin_res _ P.mem H2 F2 rfl hl P.no⟩
  unfold opC
  generalize ((a + 2 + n % c : Nat) : Int) = a1 at *
  rw [evX_fun (m := c42) rfl _ _ _ _ P.mem.ne0 rfl]
  simp -implicitDefEqProofs only [c42, q0, q2, qb, e0, call_Q, quietR_mk, flat, flatL, e1, e2, hx, List.set_set, outG, push_cast, Nat.reduceAdd, Nat.reduceMul, Nat.reduceSub, Nat.reduceLT, Nat.reduceLeDiff, Nat.reduceEqDiff, Nat.reducePow, Int.reduceToNat, Int.reduceLT, Int.reduceLE, Int.reduceNeg, Int.reduceEq, Int.reducePow, reduceIte, reduceCtorEq, Int.reduceMul, Int.reduceAdd, Int.reduceSub, Int.reduceMod, Int.reduceDiv, Int.reduceTDiv, Int.reduceTMod, iter_s]
theorem popSlot_ok2 (k : Nat) (n : Nat) (hn : b = n) (P : OpPre h M row r tt a c (opC a c f w tk b t v)) (hx : ¬ t < b) :
    ∃ h', evF cm (k + 113) 42 [.p r 0 0, .agg [.p (row .mem) 0 0, .i tt]] h 0 = some (.i 0, h') ∧ OpRes h M row r h' (M.load tt (a + 2 + n % c)) row (opC a c (.f 47 []) w tk b t (M.av (a + 2 + n % c))) := by
  have P1 := P.box [⟨0, [.p (row .mem) 0 0, .i tt]⟩]
  have hl := rowOf_lt P.op
  have := P.na
  have := P.big
  have qb := boxRow h ⟨0, [.p (row .mem) 0 0, .i tt]⟩
  have q0 := P1.op
  have hm : n % c < c := Nat.mod_lt _ P.c0
  have e0 : ∀ k lim, evF cm (k + 1) 45 [.p r 0 0, .i b] (h ++ [⟨0, [.p (row .mem) 0 0, .i tt]⟩]) lim = some (.i ((a + 2 + n % c : Nat) : Int), h ++ [⟨0, [.p (row .mem) 0 0, .i tt]⟩]) := fun k lim => by have e := slot_ok k lim _ r a c n f w tk b t v P1.op (by omega) P.c0 (by omega); rw [← hn] at e; exact e
  obtain ⟨h2, e1, H2, F2⟩ := opload_ok k _ M row P1.mem r 7 _ P1.op (by simp [opC]) P.no tt (a + 2 + n % c) P.tt (by omega) P.ops (.p r 0 0)
  have hl2 : r < h2.length := Nat.lt_of_lt_of_le (by rw [List.length_append]; omega) F2.le
  have e2 := fun k => opthen_ok k (h2.set r ⟨0, opC a c f w tk b t (M.av (a + 2 + n % c))⟩) r a c f 47 w tk b t (M.av (a + 2 + n % c)) (rowOf_set_eq hl2)
  have q2 : ∀ cs, rowOf (h2.set r ⟨0, cs⟩) r 0 = some cs := fun cs => rowOf_set_eq hl2
  unfold opC at q0 e1 e2
  refine ⟨h2.set r ⟨0, opC a c (.f 47 []) w tk b t (M.av (a + 2 + n % c))⟩, ?_, fin_res _ P.mem H2 F2 rfl hl P.no⟩
  unfold opC
  generalize ((a + 2 + n % c : Nat) : Int) = a1 at *
  rw [evX_fun (m := c42) rfl _ _ _ _ P.mem.ne0 rfl]
  simp -implicitDefEqProofs only [c42, q0, q2, qb, e0, call_Q, quietR_mk, flat, flatL, e1, e2, hx, List.set_set, outG, push_cast, Nat.reduceAdd, Nat.reduceMul, Nat.reduceSub, Nat.reduceLT, Nat.reduceLeDiff, Nat.reduceEqDiff, Nat.reducePow, Int.reduceToNat, Int.reduceLT, Int.reduceLE, Int.reduceNeg, Int.reduceEq, Int.reducePow, reduceIte, reduceCtorEq, Int.reduceMul, Int.reduceAdd, Int.reduceSub, Int.reduceMod, Int.reduceDiv, Int.reduceTDiv, Int.reduceTMod, iter_s]
theorem popSwap_ok1 (k : Nat) (P : OpPre h M row r tt a c (opC a c f w tk b t v)) (hw : IntKind.i64.wrap (t + 1) = t + 1) (hx : M.av a = t) :
    ∃ h' row', evF cm (k + 113) 47 [.p r 0 0, .agg [.p (row .mem) 0 0, .i tt]] h 0 = some (.i 0, h') ∧ OpRes h M row r h' (M.swap tt a t (t + 1)) row' (opC a c (.f 50 []) w tk b t v) := by
  have P1 := P.box [⟨0, [.p (row .mem) 0 0, .i tt]⟩]
  have hl := rowOf_lt P.op
  have := P.na
  have := P.big
  have qb := boxRow h ⟨0, [.p (row .mem) 0 0, .i tt]⟩
  have q0 := P1.op
  obtain ⟨h2, row2, e1, H2, hm2, F2⟩ := swap_ok (k + 2) _ M row P1.mem tt a t (t + 1) P.tt (by omega) P.ops
  simp only [hx, decide_true, decide_false] at e1
  have hl2 : r < h2.length := Nat.lt_of_lt_of_le (by rw [List.length_append]; omega) F2.le
  have q2 := F2.keep P1.op P.no
  have e2 := fun k => opthen_ok k h2 r a c f 50 w tk b t v q2
  have w1 : IntKind.i64.wrap ((a : Int) + 0) = (a : Int) := by rw [w64 _ (by omega) (by omega)]; omega
  unfold opC at q0 e2
  refine ⟨h2.set r ⟨0, opC a c (.f 50 []) w tk b t v⟩, row2, ?_, fin_res _ P.mem H2 F2 hm2 hl P.no⟩
  unfold opC
  rw [evX_fun (m := c47) rfl _ _ _ _ P.mem.ne0 rfl]
  simp -implicitDefEqProofs only [c47, q0, qb, e1, e2, w1, hw, outG, push_cast, Nat.reduceAdd, Nat.reduceMul, Nat.reduceSub, Nat.reduceLT, Nat.reduceLeDiff, Nat.reduceEqDiff, Nat.reducePow, Int.reduceToNat, Int.reduceLT, Int.reduceLE, Int.reduceNeg, Int.reduceEq, Int.reducePow, reduceIte, reduceCtorEq, Int.reduceMul, Int.reduceAdd, Int.reduceSub, Int.reduceMod, Int.reduceDiv, Int.reduceTDiv, Int.reduceTMod, iter_s]
theorem popSwap_ok2 (k : Nat) (P : OpPre h M row r tt a c (opC a c f w tk b t v)) (hw : IntKind.i64.wrap (t + 1) = t + 1) (hx : ¬ M.av a = t) :
    ∃ h' row', evF cm (k + 113) 47 [.p r 0 0, .agg [.p (row .mem) 0 0, .i tt]] h 0 = some (.i 0, h') ∧ OpRes h M row r h' (M.swap tt a t (t + 1)) row' (opC a c (.f 51 []) w tk b t v) := by
  have P1 := P.box [⟨0, [.p (row .mem) 0 0, .i tt]⟩]
  have hl := rowOf_lt P.op
  have := P.na
  have := P.big
  have qb := boxRow h ⟨0, [.p (row .mem) 0 0, .i tt]⟩
  have q0 := P1.op
  obtain ⟨h2, row2, e1, H2, hm2, F2⟩ := swap_ok (k + 2) _ M row P1.mem tt a t (t + 1) P.tt (by omega) P.ops
  simp only [hx, decide_true, decide_false] at e1
  have hl2 : r < h2.length := Nat.lt_of_lt_of_le (by rw [List.length_append]; omega) F2.le
  have q2 := F2.keep P1.op P.no
  have e2 := fun k => opthen_ok k h2 r a c f 51 w tk b t v q2
  have w1 : IntKind.i64.wrap ((a : Int) + 0) = (a : Int) := by rw [w64 _ (by omega) (by omega)]; omega
  unfold opC at q0 e2
  refine ⟨h2.set r ⟨0, opC a c (.f 51 []) w tk b t v⟩, row2, ?_, fin_res _ P.mem H2 F2 hm2 hl P.no⟩
  unfold opC
  rw [evX_fun (m := c47) rfl _ _ _ _ P.mem.ne0 rfl]
  simp -implicitDefEqProofs only [c47, q0, qb, e1, e2, w1, hw, outG, push_cast, Nat.reduceAdd, Nat.reduceMul, Nat.reduceSub, Nat.reduceLT, Nat.reduceLeDiff, Nat.reduceEqDiff, Nat.reducePow, Int.reduceToNat, Int.reduceLT, Int.reduceLE, Int.reduceNeg, Int.reduceEq, Int.reducePow, reduceIte, reduceCtorEq, Int.reduceMul, Int.reduceAdd, Int.reduceSub, Int.reduceMod, Int.reduceDiv, Int.reduceTDiv, Int.reduceTMod, iter_s]
theorem popWon_ok (k : Nat) (P : OpPre h M row r tt a c (opC a c f w tk b t v)) (hw : IntKind.i64.wrap (t + 1) = t + 1) :
    ∃ h' row', evF cm (k + 113) 50 [.p r 0 0, .agg [.p (row .mem) 0 0, .i tt]] h 0 = some (.i 0, h') ∧ OpRes h M row r h' (M.store tt (a + 1) (t + 1)) row' (opC a c f 1 tk b t v) := by
  have P1 := P.box [⟨0, [.p (row .mem) 0 0, .i tt]⟩]
  have hl := rowOf_lt P.op
  have := P.na
  have := P.big
  have qb := boxRow h ⟨0, [.p (row .mem) 0 0, .i tt]⟩
  have q0 := P1.op
  obtain ⟨h2, row2, e1, H2, hm2, F2⟩ := store_ok (k + 2) _ M row P1.mem tt (a + 1) (t + 1) P.tt (by omega) P.ops
  have hl2 : r < h2.length := Nat.lt_of_lt_of_le (by rw [List.length_append]; omega) F2.le
  have q2 := F2.keep P1.op P.no
  have e2 := fun k => opend_ok k h2 r a c f w 1 tk b t v q2
  have w1 : IntKind.i64.wrap ((a : Int) + 1) = ((a + 1 : Nat) : Int) := by rw [w64 _ (by omega) (by omega)]; omega
  unfold opC at q0 e2
  refine ⟨h2.set r ⟨0, opC a c f 1 tk b t v⟩, row2, ?_, fin_res _ P.mem H2 F2 hm2 hl P.no⟩
  unfold opC
  generalize ((a + 1 : Nat) : Int) = a1 at *
  rw [evX_fun (m := c50) rfl _ _ _ _ P.mem.ne0 rfl]
  simp -implicitDefEqProofs only [c50, q0, qb, e1, e2, w1, hw, outG, push_cast, Nat.reduceAdd, Nat.reduceMul, Nat.reduceSub, Nat.reduceLT, Nat.reduceLeDiff, Nat.reduceEqDiff, Nat.reducePow, Int.reduceToNat, Int.reduceLT, Int.reduceLE, Int.reduceNeg, Int.reduceEq, Int.reducePow, reduceIte, reduceCtorEq, Int.reduceMul, Int.reduceAdd, Int.reduceSub, Int.reduceMod, Int.reduceDiv, Int.reduceTDiv, Int.reduceTMod, iter_s]
theorem popLost_ok (k : Nat) (P : OpPre h M row r tt a c (opC a c f w tk b t v)) (hw : IntKind.i64.wrap (t + 1) = t + 1) :
    ∃ h' row', evF cm (k + 113) 51 [.p r 0 0, .agg [.p (row .mem) 0 0, .i tt]] h 0 = some (.i 0, h') ∧ OpRes h M row r h' (M.store tt (a + 1) (t + 1)) row' (opC a c f 3 tk b t v) := by
  have P1 := P.box [⟨0, [.p (row .mem) 0 0, .i tt]⟩]
  have hl := rowOf_lt P.op
  have := P.na
  have := P.big
  have qb := boxRow h ⟨0, [.p (row .mem) 0 0, .i tt]⟩
  have q0 := P1.op
  obtain ⟨h2, row2, e1, H2, hm2, F2⟩ := store_ok (k + 2) _ M row P1.mem tt (a + 1) (t + 1) P.tt (by omega) P.ops
  have hl2 : r < h2.length := Nat.lt_of_lt_of_le (by rw [List.length_append]; omega) F2.le
  have q2 := F2.keep P1.op P.no
  have e2 := fun k => opend_ok k h2 r a c f w 3 tk b t v q2
  have w1 : IntKind.i64.wrap ((a : Int) + 1) = ((a + 1 : Nat) : Int) := by rw [w64 _ (by omega) (by omega)]; omega
  unfold opC at q0 e2
  refine ⟨h2.set r ⟨0, opC a c f 3 tk b t v⟩, row2, ?_, fin_res _ P.mem H2 F2 hm2 hl P.no⟩
  unfold opC
  generalize ((a + 1 : Nat) : Int) = a1 at *
  rw [evX_fun (m := c51) rfl _ _ _ _ P.mem.ne0 rfl]
  simp -implicitDefEqProofs only [c51, q0, qb, e1, e2, w1, hw, outG, push_cast, Nat.reduceAdd, Nat.reduceMul, Nat.reduceSub, Nat.reduceLT, Nat.reduceLeDiff, Nat.reduceEqDiff, Nat.reducePow, Int.reduceToNat, Int.reduceLT, Int.reduceLE, Int.reduceNeg, Int.reduceEq, Int.reducePow, reduceIte, reduceCtorEq, Int.reduceMul, Int.reduceAdd, Int.reduceSub, Int.reduceMod, Int.reduceDiv, Int.reduceTDiv, Int.reduceTMod, iter_s]
theorem stealTop_ok (k : Nat) (P : OpPre h M row r tt a c (opC a c f w tk b t v)) :
    ∃ h', evF cm (k + 113) 21 [.p r 0 0, .agg [.p (row .mem) 0 0, .i tt]] h 0 = some (.i 0, h') ∧ OpRes h M row r h' (M.load tt (a)) row (opC a c (.f 27 []) w tk b (M.av (a)) v) := by
  have P1 := P.box [⟨0, [.p (row .mem) 0 0, .i tt]⟩]
  have hl := rowOf_lt P.op
  have := P.na
  have := P.big
  have qb := boxRow h ⟨0, [.p (row .mem) 0 0, .i tt]⟩
  have q0 := P1.op
  obtain ⟨h2, e1, H2, F2⟩ := opload_ok k _ M row P1.mem r 6 _ P1.op (by simp [opC]) P.no tt (a) P.tt (by omega) P.ops (.p r 0 0)
  have hl2 : r < h2.length := Nat.lt_of_lt_of_le (by rw [List.length_append]; omega) F2.le
  have e2 := fun k => opthen_ok k (h2.set r ⟨0, opC a c f w tk b (M.av (a)) v⟩) r a c f 27 w tk b (M.av (a)) v (rowOf_set_eq hl2)
  have q2 : ∀ cs, rowOf (h2.set r ⟨0, cs⟩) r 0 = some cs := fun cs => rowOf_set_eq hl2
  have w1 : IntKind.i64.wrap ((a : Int) + 0) = (a : Int) := by rw [w64 _ (by omega) (by omega)]; omega
  unfold opC at q0 e1 e2
  refine ⟨h2.set r ⟨0, opC a c (.f 27 []) w tk b (M.av (a)) v⟩, ?_, fin_res _ P.mem H2 F2 rfl hl P.no⟩
  unfold opC
  rw [evX_fun (m := c21) rfl _ _ _ _ P.mem.ne0 rfl]
  simp -implicitDefEqProofs only [c21, q0, q2, qb, e1, e2, w1,  List.set_set, outG, push_cast, Nat.reduceAdd, Nat.reduceMul, Nat.reduceSub, Nat.reduceLT, Nat.reduceLeDiff, Nat.reduceEqDiff, Nat.reducePow, Int.reduceToNat, Int.reduceLT, Int.reduceLE, Int.reduceNeg, Int.reduceEq, Int.reducePow, reduceIte, reduceCtorEq, Int.reduceMul, Int.reduceAdd, Int.reduceSub, Int.reduceMod, Int.reduceDiv, Int.reduceTDiv, Int.reduceTMod, iter_s]
theorem stealBottom_ok1 (k : Nat) (P : OpPre h M row r tt a c (opC a c f w tk b t v)) (hx : M.av (a + 1) ≤ t) :
    ∃ h', evF cm (k + 113) 27 [.p r 0 0, .agg [.p (row .mem) 0 0, .i tt]] h 0 = some (.i 0, h') ∧ OpRes h M row r h' (M.load tt (a + 1)) row (opC a c f 2 tk (M.av (a + 1)) t v) := by
  have P1 := P.box [⟨0, [.p (row .mem) 0 0, .i tt]⟩]
  have hl := rowOf_lt P.op
  have := P.na
  have := P.big
  have qb := boxRow h ⟨0, [.p (row .mem) 0 0, .i tt]⟩
  have q0 := P1.op
  obtain ⟨h2, e1, H2, F2⟩ := opload_ok k _ M row P1.mem r 5 _ P1.op (by simp [opC]) P.no tt (a + 1) P.tt (by omega) P.ops (.p r 0 0)
  have hl2 : r < h2.length := Nat.lt_of_lt_of_le (by rw [List.length_append]; omega) F2.le
  have e2 := fun k => opend_ok k (h2.set r ⟨0, opC a c f w tk (M.av (a + 1)) t v⟩) r a c f w 2 tk (M.av (a + 1)) t v (rowOf_set_eq hl2)
  have q2 : ∀ cs, rowOf (h2.set r ⟨0, cs⟩) r 0 = some cs := fun cs => rowOf_set_eq hl2
  have w1 : IntKind.i64.wrap ((a : Int) + 1) = ((a + 1 : Nat) : Int) := by rw [w64 _ (by omega) (by omega)]; omega
  unfold opC at q0 e1 e2
  refine ⟨h2.set r ⟨0, opC a c f 2 tk (M.av (a + 1)) t v⟩, ?_, fin_res _ P.mem H2 F2 rfl hl P.no⟩
  unfold opC
  generalize ((a + 1 : Nat) : Int) = a1 at *
  rw [evX_fun (m := c27) rfl _ _ _ _ P.mem.ne0 rfl]
  simp -implicitDefEqProofs only [c27, q0, q2, qb, e1, e2, w1, hx, List.set_set, outG, push_cast, Nat.reduceAdd, Nat.reduceMul, Nat.reduceSub, Nat.reduceLT, Nat.reduceLeDiff, Nat.reduceEqDiff, Nat.reducePow, Int.reduceToNat, Int.reduceLT, Int.reduceLE, Int.reduceNeg, Int.reduceEq, Int.reducePow, reduceIte, reduceCtorEq, Int.reduceMul, Int.reduceAdd, Int.reduceSub, Int.reduceMod, Int.reduceDiv, Int.reduceTDiv, Int.reduceTMod, iter_s]
theorem stealBottom_ok2 (k : Nat) (P : OpPre h M row r tt a c (opC a c f w tk b t v)) (hx : ¬ M.av (a + 1) ≤ t) :
    ∃ h', evF cm (k + 113) 27 [.p r 0 0, .agg [.p (row .mem) 0 0, .i tt]] h 0 = some (.i 0, h') ∧ OpRes h M row r h' (M.load tt (a + 1)) row (opC a c (.f 35 []) w tk (M.av (a + 1)) t v) := by
  have P1 := P.box [⟨0, [.p (row .mem) 0 0, .i tt]⟩]
  have hl := rowOf_lt P.op
  have := P.na
  have := P.big
  have qb := boxRow h ⟨0, [.p (row .mem) 0 0, .i tt]⟩
  have q0 := P1.op
  obtain ⟨h2, e1, H2, F2⟩ := opload_ok k _ M row P1.mem r 5 _ P1.op (by simp [opC]) P.no tt (a + 1) P.tt (by omega) P.ops (.p r 0 0)
  have hl2 : r < h2.length := Nat.lt_of_lt_of_le (by rw [List.length_append]; omega) F2.le
  have e2 := fun k => opthen_ok k (h2.set r ⟨0, opC a c f w tk (M.av (a + 1)) t v⟩) r a c f 35 w tk (M.av (a + 1)) t v (rowOf_set_eq hl2)
  have q2 : ∀ cs, rowOf (h2.set r ⟨0, cs⟩) r 0 = some cs := fun cs => rowOf_set_eq hl2
  have w1 : IntKind.i64.wrap ((a : Int) + 1) = ((a + 1 : Nat) : Int) := by rw [w64 _ (by omega) (by omega)]; omega
  unfold opC at q0 e1 e2
  refine ⟨h2.set r ⟨0, opC a c (.f 35 []) w tk (M.av (a + 1)) t v⟩, ?_, fin_res _ P.mem H2 F2 rfl hl P.no⟩
  unfold opC
  generalize ((a + 1 : Nat) : Int) = a1 at *
  rw [evX_fun (m := c27) rfl _ _ _ _ P.mem.ne0 rfl]
  simp -implicitDefEqProofs only [c27, q0, q2, qb, e1, e2, w1, hx, List.set_set, outG, push_cast, Nat.reduceAdd, Nat.reduceMul, Nat.reduceSub, Nat.reduceLT, Nat.reduceLeDiff, Nat.reduceEqDiff, Nat.reducePow, Int.reduceToNat, Int.reduceLT, Int.reduceLE, Int.reduceNeg, Int.reduceEq, Int.reducePow, reduceIte, reduceCtorEq, Int.reduceMul, Int.reduceAdd, Int.reduceSub, Int.reduceMod, Int.reduceDiv, Int.reduceTDiv, Int.reduceTMod, iter_s]
theorem stealSlot_ok (k : Nat) (n : Nat) (hn : t = n) (P : OpPre h M row r tt a c (opC a c f w tk b t v)) :
    ∃ h', evF cm (k + 113) 35 [.p r 0 0, .agg [.p (row .mem) 0 0, .i tt]] h 0 = some (.i 0, h') ∧ OpRes h M row r h' (M.load tt (a + 2 + n % c)) row (opC a c (.f 44 []) w tk b t (M.av (a + 2 + n % c))) := by
  have P1 := P.box [⟨0, [.p (row .mem) 0 0, .i tt]⟩]
  have hl := rowOf_lt P.op
  have := P.na
  have := P.big
  have qb := boxRow h ⟨0, [.p (row .mem) 0 0, .i tt]⟩
  have q0 := P1.op
  have hm : n % c < c := Nat.mod_lt _ P.c0
  have e0 : ∀ k lim, evF cm (k + 1) 45 [.p r 0 0, .i t] (h ++ [⟨0, [.p (row .mem) 0 0, .i tt]⟩]) lim = some (.i ((a + 2 + n % c : Nat) : Int), h ++ [⟨0, [.p (row .mem) 0 0, .i tt]⟩]) := fun k lim => by have e := slot_ok k lim _ r a c n f w tk b t v P1.op (by omega) P.c0 (by omega); rw [← hn] at e; exact e
  obtain ⟨h2, e1, H2, F2⟩ := opload_ok k _ M row P1.mem r 7 _ P1.op (by simp [opC]) P.no tt (a + 2 + n % c) P.tt (by omega) P.ops (.p r 0 0)
  have hl2 : r < h2.length := Nat.lt_of_lt_of_le (by rw [List.length_append]; omega) F2.le
  have e2 := fun k => opthen_ok k (h2.set r ⟨0, opC a c f w tk b t (M.av (a + 2 + n % c))⟩) r a c f 44 w tk b t (M.av (a + 2 + n % c)) (rowOf_set_eq hl2)
  have q2 : ∀ cs, rowOf (h2.set r ⟨0, cs⟩) r 0 = some cs := fun cs => rowOf_set_eq hl2
  unfold opC at q0 e1 e2
  refine ⟨h2.set r ⟨0, opC a c (.f 44 []) w tk b t (M.av (a + 2 + n % c))⟩, ?_, fin_res _ P.mem H2 F2 rfl hl P.no⟩
  unfold opC
  generalize ((a + 2 + n % c : Nat) : Int) = a1 at *
  rw [evX_fun (m := c35) rfl _ _ _ _ P.mem.ne0 rfl]
  simp -implicitDefEqProofs only [c35, q0, q2, qb, e0, call_Q, quietR_mk, flat, flatL, e1, e2,  List.set_set, outG, push_cast, Nat.reduceAdd, Nat.reduceMul, Nat.reduceSub, Nat.reduceLT, Nat.reduceLeDiff, Nat.reduceEqDiff, Nat.reducePow, Int.reduceToNat, Int.reduceLT, Int.reduceLE, Int.reduceNeg, Int.reduceEq, Int.reducePow, reduceIte, reduceCtorEq, Int.reduceMul, Int.reduceAdd, Int.reduceSub, Int.reduceMod, Int.reduceDiv, Int.reduceTDiv, Int.reduceTMod, iter_s]
theorem stealSwap_ok1 (k : Nat) (P : OpPre h M row r tt a c (opC a c f w tk b t v)) (hw : IntKind.i64.wrap (t + 1) = t + 1) (hx : M.av a = t) :
    ∃ h' row', evF cm (k + 113) 44 [.p r 0 0, .agg [.p (row .mem) 0 0, .i tt]] h 0 = some (.i 0, h') ∧ OpRes h M row r h' (M.swap tt a t (t + 1)) row' (opC a c f 1 tk b t v) := by
  have P1 := P.box [⟨0, [.p (row .mem) 0 0, .i tt]⟩]
  have hl := rowOf_lt P.op
  have := P.na
  have := P.big
  have qb := boxRow h ⟨0, [.p (row .mem) 0 0, .i tt]⟩
  have q0 := P1.op
  obtain ⟨h2, row2, e1, H2, hm2, F2⟩ := swap_ok (k + 2) _ M row P1.mem tt a t (t + 1) P.tt (by omega) P.ops
  simp only [hx, decide_true, decide_false] at e1
  have hl2 : r < h2.length := Nat.lt_of_lt_of_le (by rw [List.length_append]; omega) F2.le
  have q2 := F2.keep P1.op P.no
  have e2 := fun k => opend_ok k h2 r a c f w 1 tk b t v q2
  have w1 : IntKind.i64.wrap ((a : Int) + 0) = (a : Int) := by rw [w64 _ (by omega) (by omega)]; omega
  unfold opC at q0 e2
  refine ⟨h2.set r ⟨0, opC a c f 1 tk b t v⟩, row2, ?_, fin_res _ P.mem H2 F2 hm2 hl P.no⟩
  unfold opC
  rw [evX_fun (m := c44) rfl _ _ _ _ P.mem.ne0 rfl]
  simp -implicitDefEqProofs only [c44, q0, qb, e1, e2, w1, hw, outG, push_cast, Nat.reduceAdd, Nat.reduceMul, Nat.reduceSub, Nat.reduceLT, Nat.reduceLeDiff, Nat.reduceEqDiff, Nat.reducePow, Int.reduceToNat, Int.reduceLT, Int.reduceLE, Int.reduceNeg, Int.reduceEq, Int.reducePow, reduceIte, reduceCtorEq, Int.reduceMul, Int.reduceAdd, Int.reduceSub, Int.reduceMod, Int.reduceDiv, Int.reduceTDiv, Int.reduceTMod, iter_s]
theorem stealSwap_ok2 (k : Nat) (P : OpPre h M row r tt a c (opC a c f w tk b t v)) (hw : IntKind.i64.wrap (t + 1) = t + 1) (hx : ¬ M.av a = t) :
    ∃ h' row', evF cm (k + 113) 44 [.p r 0 0, .agg [.p (row .mem) 0 0, .i tt]] h 0 = some (.i 0, h') ∧ OpRes h M row r h' (M.swap tt a t (t + 1)) row' (opC a c f 3 tk b t v) := by
  have P1 := P.box [⟨0, [.p (row .mem) 0 0, .i tt]⟩]
  have hl := rowOf_lt P.op
  have := P.na
  have := P.big
  have qb := boxRow h ⟨0, [.p (row .mem) 0 0, .i tt]⟩
  have q0 := P1.op
  obtain ⟨h2, row2, e1, H2, hm2, F2⟩ := swap_ok (k + 2) _ M row P1.mem tt a t (t + 1) P.tt (by omega) P.ops
  simp only [hx, decide_true, decide_false] at e1
  have hl2 : r < h2.length := Nat.lt_of_lt_of_le (by rw [List.length_append]; omega) F2.le
  have q2 := F2.keep P1.op P.no
  have e2 := fun k => opend_ok k h2 r a c f w 3 tk b t v q2
  have w1 : IntKind.i64.wrap ((a : Int) + 0) = (a : Int) := by rw [w64 _ (by omega) (by omega)]; omega
  unfold opC at q0 e2
  refine ⟨h2.set r ⟨0, opC a c f 3 tk b t v⟩, row2, ?_, fin_res _ P.mem H2 F2 hm2 hl P.no⟩
  unfold opC
  rw [evX_fun (m := c44) rfl _ _ _ _ P.mem.ne0 rfl]
  simp -implicitDefEqProofs only [c44, q0, qb, e1, e2, w1, hw, outG, push_cast, Nat.reduceAdd, Nat.reduceMul, Nat.reduceSub, Nat.reduceLT, Nat.reduceLeDiff, Nat.reduceEqDiff, Nat.reducePow, Int.reduceToNat, Int.reduceLT, Int.reduceLE, Int.reduceNeg, Int.reduceEq, Int.reducePow, reduceIte, reduceCtorEq, Int.reduceMul, Int.reduceAdd, Int.reduceSub, Int.reduceMod, Int.reduceDiv, Int.reduceTDiv, Int.reduceTMod, iter_s]
end
end Go.Proofs.Ytjoldlaoncdcgaa
