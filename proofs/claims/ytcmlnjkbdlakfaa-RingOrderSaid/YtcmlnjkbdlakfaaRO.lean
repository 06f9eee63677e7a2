/- A ring's operation, step by step, as the evaluator answers. -/
import Derived.Test.YtcmlnjkbdlakfaaMS
import Derived.Test.YtcmlnjkbdlakfaaRQ
set_option linter.unusedSimpArgs false
set_option linter.unusedVariables false
set_option maxRecDepth 100000
set_option maxHeartbeats 16000000
namespace Go.Proofs.Ytcmlnjkbdlakfaa
open Go
/-- An operation's cells. -/
def opR (rr : Nat) (f : LV) (pc : Nat) (w n got tasks frame : Int) : List LV := [.p rr 0 0, f, .i pc, .i w, .i n, .i got, .i tasks, .i frame]
/-- A ring's cells. -/
def RG.cells (R : RG) : List LV := [.i R.k, .i R.a, .i R.c, .i R.l, .i R.head, .i R.dealt]
/-- What is owned, and two rows more. -/
def W2 (o : Nat → Prop) (r rr : Nat) (k : Nat) : Prop := o k ∨ k = r ∨ k = rr
theorem Frm.keep {o o' : Nat → Prop} {h h' : List Row} (F : Frm o o' h h') {r : Nat} {v : Nat} {cs : List LV} (hr : rowOf h r v = some cs) (ho : ¬ o r) : rowOf h' r v = some cs := by
  unfold rowOf at hr ⊢
  have hl : r < h.length := rowOf_lt hr
  rw [F.same r hl ho]; exact hr
theorem Frm.wide2 {o o' : Nat → Prop} {h h' : List Row} (F : Frm o o' h h') (r rr : Nat) : Frm (W2 o r rr) (W2 o' r rr) h h' :=
  ⟨F.le, fun k hk ho => F.same k hk fun hh => ho (.inl hh), fun k hk => by
    rcases hk with hk | hk
    · rcases F.sub k hk with h1 | h1
      · exact .inl (.inl h1)
      · exact .inr h1
    · exact .inl (.inr hk)⟩
/-- Where an operation is ahead of a step. -/
structure RPre (h : List Row) (M : AM) (row : Tg → Nat) (r rr tt : Nat) (R : RG) (cs : List LV) : Prop where
  mem : MemAt h M row
  op : rowOf h r 0 = some cs
  rg : rowOf h rr 0 = some R.cells
  no : ¬ own M row r
  nr : ¬ own M row rr
  ne : r ≠ rr
  tt : tt < M.n
  na : R.a + 3 + R.k ≤ M.na
  np : R.c + 1 + R.k ≤ M.np
  nl : R.l < M.nl
  k0 : 0 < R.k
  big : M.na ≤ 65536 ∧ M.np ≤ 65536 ∧ M.nl ≤ 65536
  ops : M.ops < 1000000000
  cl : M.cl.length < 900000000
/-- What a step leaves. -/
structure RRes (h : List Row) (M : AM) (row : Tg → Nat) (r rr : Nat) (h' : List Row) (M' : AM) (row' : Tg → Nat) (R' : RG) (cs' : List LV) : Prop where
  mem : MemAt h' M' row'
  rm : row' .mem = row .mem
  fr : Frm (W2 (own M row) r rr) (W2 (own M' row') r rr) h h'
  op : rowOf h' r 0 = some cs'
  rg : rowOf h' rr 0 = some R'.cells
  no : ¬ own M' row' r
  nr : ¬ own M' row' rr
  ne : r ≠ rr
theorem RRes.begin {h h2 : List Row} {M M' : AM} {row row' : Tg → Nat} {r rr tt : Nat} {R : RG} {cs : List LV} (P : RPre h M row r rr tt R cs) (H2 : MemAt h2 M' row') (hm : row' .mem = row .mem) (F : Frm (own M row) (own M' row') h h2) : RRes h M row r rr h2 M' row' R cs :=
  ⟨H2, hm, F.wide2 r rr, F.keep P.op P.no, F.keep P.rg P.nr, F.apart (rowOf_lt P.op) P.no, F.apart (rowOf_lt P.rg) P.nr, P.ne⟩
theorem RRes.putO {h h2 : List Row} {M M' : AM} {row row' : Tg → Nat} {r rr : Nat} {R : RG} {cs : List LV} (X : RRes h M row r rr h2 M' row' R cs) (cs' : List LV) : RRes h M row r rr (h2.set r ⟨0, cs'⟩) M' row' R cs' :=
  ⟨X.mem.keep fun k hk => by rw [List.getElem?_set_ne]; rintro rfl; exact X.no hk, X.rm, X.fr.trans (Frm.put (.inr (.inl rfl)) (fun _ h => h) _), rowOf_set_eq (rowOf_lt X.op), by rw [rowOf_set_ne X.ne]; exact X.rg, X.no, X.nr, X.ne⟩
theorem RRes.putR {h h2 : List Row} {M M' : AM} {row row' : Tg → Nat} {r rr : Nat} {R : RG} {cs : List LV} (X : RRes h M row r rr h2 M' row' R cs) (R' : RG) : RRes h M row r rr (h2.set rr ⟨0, R'.cells⟩) M' row' R' cs :=
  ⟨X.mem.keep fun k hk => by rw [List.getElem?_set_ne]; rintro rfl; exact X.nr hk, X.rm, X.fr.trans (Frm.put (.inr (.inr rfl)) (fun _ h => h) _), by rw [rowOf_set_ne (Ne.symm X.ne)]; exact X.op, rowOf_set_eq (rowOf_lt X.rg), X.no, X.nr, X.ne⟩
theorem RRes.trans {h h1 h2 : List Row} {M M1 M2 : AM} {row row1 row2 : Tg → Nat} {r rr : Nat} {R1 R2 : RG} {c1 c2 : List LV} (a : RRes h M row r rr h1 M1 row1 R1 c1) (b : RRes h1 M1 row1 r rr h2 M2 row2 R2 c2) : RRes h M row r rr h2 M2 row2 R2 c2 :=
  ⟨b.mem, b.rm.trans a.rm, a.fr.trans b.fr, b.op, b.rg, b.no, b.nr, b.ne⟩
theorem RPre.start {h : List Row} {M : AM} {row : Tg → Nat} {r rr tt : Nat} {R : RG} {cs : List LV} (P : RPre h M row r rr tt R cs) : RRes h M row r rr h M row R cs :=
  ⟨P.mem, rfl, Frm.refl _ _, P.op, P.rg, P.no, P.nr, P.ne⟩
theorem on_ok (k : Nat) (h : List Row) (r rr : Nat) (f : LV) (pc : Nat) (w n got tasks frame : Int) (hp : pc ≤ 6) (hr : rowOf h r 0 = some (opR rr f pc w n got tasks frame)) :
    evF cm (k + 1) 36 [.p r 0 0, .i 0] h 0 = some (.i 0, h.set r ⟨0, opR rr f (pc + 1) w n got tasks frame⟩) := by
  have hn : h.isEmpty = false := by have := rowOf_lt hr; cases h with | nil => simp at this | cons _ _ => rfl
  have w1 : IntKind.i64.wrap ((pc : Int) + 1) = ((pc + 1 : Nat) : Int) := by rw [w64 _ (by omega) (by omega)]; omega
  unfold opR at hr ⊢
  generalize ((pc + 1 : Nat) : Int) = pc1 at *
  rw [evX_fun (m := c36) rfl _ _ _ _ hn rfl]
  simp -implicitDefEqProofs only [c36, hr, w1, push_cast, Nat.reduceAdd, Nat.reduceMul, Nat.reduceSub, Nat.reduceLT, Nat.reduceLeDiff, Nat.reduceEqDiff, Nat.reducePow, Int.reduceToNat, Int.reduceLT, Int.reduceLE, Int.reduceNeg, Int.reduceEq, Int.reducePow, reduceIte, reduceCtorEq, Int.reduceMul, Int.reduceAdd, Int.reduceSub, Int.reduceMod, Int.reduceDiv, Int.reduceTDiv, Int.reduceTMod, iter_s]
theorem over_ok (k : Nat) (h : List Row) (r rr : Nat) (f : LV) (pc : Nat) (w x n got tasks frame : Int) (hr : rowOf h r 0 = some (opR rr f pc w n got tasks frame)) :
    evF cm (k + 1) 40 [.p r 0 0, .i x, .i 0] h 0 = some (.i 0, h.set r ⟨0, opR rr f pc x n got tasks frame⟩) := by
  have hn : h.isEmpty = false := by have := rowOf_lt hr; cases h with | nil => simp at this | cons _ _ => rfl
  unfold opR at hr ⊢
  rw [evX_fun (m := c40) rfl _ _ _ _ hn rfl]
  simp -implicitDefEqProofs only [c40, hr, push_cast, Nat.reduceAdd, Nat.reduceMul, Nat.reduceSub, Nat.reduceLT, Nat.reduceLeDiff, Nat.reduceEqDiff, Nat.reducePow, Int.reduceToNat, Int.reduceLT, Int.reduceLE, Int.reduceNeg, Int.reduceEq, Int.reducePow, reduceIte, reduceCtorEq, Int.reduceMul, Int.reduceAdd, Int.reduceSub, Int.reduceMod, Int.reduceDiv, Int.reduceTDiv, Int.reduceTMod, iter_s]
theorem tmod2 (n k : Int) (hk : 0 < k) : (n.tmod k + k).tmod k = n % k := by
  have h1 := Int.lt_tmod_of_pos n hk
  rw [Int.tmod_eq_emod_of_nonneg (by omega), Int.add_emod_right, Int.tmod_def]
  exact Int.sub_mul_emod_self_left n k (n.tdiv k)
theorem slot_ok (k lim : Nat) (h : List Row) (rr : Nat) (R : RG) (n : Int) (hr : rowOf h rr 0 = some R.cells) (hn : small n) (hk : 0 < R.k) (hk' : R.k ≤ 100000) :
    evF cm (k + 1) 38 [.p rr 0 0, .i n] h lim = some (.i ((sl R.k n : Nat) : Int), h) := by
  have hlt := sl_lt hk n
  have h0 := Int.emod_nonneg n (b := (R.k : Int)) (by omega)
  have h1 := Int.lt_tmod_of_pos n (b := (R.k : Int)) (by omega)
  have h2 := Int.tmod_lt_of_pos n (b := (R.k : Int)) (by omega)
  have g3 : ¬ (R.k : Int) = 0 := by omega
  have es : n % (R.k : Int) = ((sl R.k n : Nat) : Int) := by unfold sl; omega
  have w1 : IntKind.i64.wrap (n.tmod (R.k : Int)) = n.tmod (R.k : Int) := w64 _ (by omega) (by omega)
  have w2 : IntKind.i64.wrap (n.tmod (R.k : Int) + (R.k : Int)) = n.tmod (R.k : Int) + (R.k : Int) := w64 _ (by omega) (by omega)
  have w3 : IntKind.i64.wrap ((sl R.k n : Nat) : Int) = ((sl R.k n : Nat) : Int) := w64 _ (by omega) (by omega)
  have e0 := tmod2 n R.k (by omega)
  rw [es] at e0
  have hne : h.isEmpty = false := by have := rowOf_lt hr; cases h with | nil => simp at this | cons _ _ => rfl
  unfold RG.cells at hr
  generalize ((sl R.k n : Nat) : Int) = q at *
  rw [evH_fun (m := c38) rfl _ _ _ _ rfl]
  simp -implicitDefEqProofs only [c38, hr, e0, w1, w2, w3, g3, push_cast, Nat.reduceAdd, Nat.reduceMul, Nat.reduceSub, Nat.reduceLT, Nat.reduceLeDiff, Nat.reduceEqDiff, Nat.reducePow, Int.reduceToNat, Int.reduceLT, Int.reduceLE, Int.reduceNeg, Int.reduceEq, Int.reducePow, reduceIte, reduceCtorEq, Int.reduceMul, Int.reduceAdd, Int.reduceSub, Int.reduceMod, Int.reduceDiv, Int.reduceTDiv, Int.reduceTMod, iter_s]
section
variable {h : List Row} {M : AM} {row : Tg → Nat} {r rr tt : Nat} {R : RG} {f : LV} {pc : Nat} {w n got tasks frame : Int}
theorem RPre.hl (P : RPre h M row r rr tt R (opR rr f pc w n got tasks frame)) : r < h.length := rowOf_lt P.op

theorem publish0a (k : Nat) (hf : (R.head : Int) ≤ 1000000) (hv : small (M.av (R.a + 1))) (hx : (R.k : Int) ≤ (R.head : Int) - M.av (R.a + 1)) (P : RPre h M row r rr tt R (opR rr f 0 w n got tasks frame)) :
    ∃ h', evF cm (k + 115) 29 [.p r 0 0, .p (row .mem) 0 0, .i tt] h 0 = some (.i 0, h') ∧ RRes h M row r rr h' (M.load tt (R.a + 1)) row (R) (opR rr f 0 w n got tasks frame) := by
  have hl := rowOf_lt P.op
  have hlr := rowOf_lt P.rg
  have := P.na
  have := P.np
  have := P.nl
  have := P.k0
  obtain ⟨B1, B2, B3⟩ := P.big
  have q0 := P.op
  have q1 := P.rg
  obtain ⟨h2, e1, H2, F2⟩ := load_ok (k + 4) h M row P.mem tt (R.a + 1) P.tt (by omega) P.ops
  have hl2 : r < h2.length := Nat.lt_of_lt_of_le hl F2.le
  have hl3 : rr < h2.length := Nat.lt_of_lt_of_le hlr F2.le
  have q2 := F2.keep P.op P.no
  have q3 := F2.keep P.rg P.nr
  have X := RRes.begin P H2 rfl F2
  have s1 : ∀ cs, rowOf (h2.set r ⟨0, cs⟩) r 0 = some cs := fun cs => rowOf_set_eq hl2
  have s2 : ∀ (Y : List Row) x, rowOf (Y.set r x) rr 0 = rowOf Y rr 0 := fun Y x => rowOf_set_ne P.ne
  have s3 : ∀ (Y : List Row) x, rowOf (Y.set rr x) r 0 = rowOf Y r 0 := fun Y x => rowOf_set_ne (Ne.symm P.ne)
  have s4 : ∀ x cs, rowOf ((h2.set rr x).set r ⟨0, cs⟩) r 0 = some cs := fun x cs => rowOf_set_eq (by rw [List.length_set]; exact hl2)
  have s5 : ∀ x cs, rowOf ((h2.set r x).set rr ⟨0, cs⟩) rr 0 = some cs := fun x cs => rowOf_set_eq (by rw [List.length_set]; exact hl3)
  have w0 : IntKind.i64.wrap ((R.a : Int) + 1) = ((R.a + 1 : Nat) : Int) := by rw [w64 _ (by omega) (by omega)] <;> omega
  have hw : IntKind.i64.wrap ((R.head : Int) - M.av (R.a + 1)) = (R.head : Int) - M.av (R.a + 1) := by unfold small at hv; exact w64 _ (by omega) (by omega)
  unfold opR at q0 q2 
  unfold RG.cells at q1 q3
  refine ⟨h2, ?_, X⟩
  try unfold opR
  generalize ((R.a + 1 : Nat) : Int) = a1 at *
  rw [evX_fun (m := c29) rfl _ _ _ _ P.mem.ne0 rfl]
  simp -implicitDefEqProofs only [c29, q0, q1, q2, q3, s1, s2, s3, s4, s5, e1, w0, hw, hx, Int.add_zero, List.set_set, push_cast, Nat.reduceAdd, Nat.reduceMul, Nat.reduceSub, Nat.reduceLT, Nat.reduceLeDiff, Nat.reduceEqDiff, Nat.reducePow, Int.reduceToNat, Int.reduceLT, Int.reduceLE, Int.reduceNeg, Int.reduceEq, Int.reducePow, reduceIte, reduceCtorEq, Int.reduceMul, Int.reduceAdd, Int.reduceSub, Int.reduceMod, Int.reduceDiv, Int.reduceTDiv, Int.reduceTMod, iter_s]
theorem publish0b (k : Nat) (hf : (R.head : Int) ≤ 1000000) (hv : small (M.av (R.a + 1))) (hx : ¬ (R.k : Int) ≤ (R.head : Int) - M.av (R.a + 1)) (P : RPre h M row r rr tt R (opR rr f 0 w n got tasks frame)) :
    ∃ h', evF cm (k + 115) 29 [.p r 0 0, .p (row .mem) 0 0, .i tt] h 0 = some (.i 0, h') ∧ RRes h M row r rr h' (M.load tt (R.a + 1)) row (R) (opR rr f 1 w n got tasks frame) := by
  have hl := rowOf_lt P.op
  have hlr := rowOf_lt P.rg
  have := P.na
  have := P.np
  have := P.nl
  have := P.k0
  obtain ⟨B1, B2, B3⟩ := P.big
  have q0 := P.op
  have q1 := P.rg
  obtain ⟨h2, e1, H2, F2⟩ := load_ok (k + 4) h M row P.mem tt (R.a + 1) P.tt (by omega) P.ops
  have hl2 : r < h2.length := Nat.lt_of_lt_of_le hl F2.le
  have hl3 : rr < h2.length := Nat.lt_of_lt_of_le hlr F2.le
  have q2 := F2.keep P.op P.no
  have q3 := F2.keep P.rg P.nr
  have X := RRes.begin P H2 rfl F2
  have s1 : ∀ cs, rowOf (h2.set r ⟨0, cs⟩) r 0 = some cs := fun cs => rowOf_set_eq hl2
  have s2 : ∀ (Y : List Row) x, rowOf (Y.set r x) rr 0 = rowOf Y rr 0 := fun Y x => rowOf_set_ne P.ne
  have s3 : ∀ (Y : List Row) x, rowOf (Y.set rr x) r 0 = rowOf Y r 0 := fun Y x => rowOf_set_ne (Ne.symm P.ne)
  have s4 : ∀ x cs, rowOf ((h2.set rr x).set r ⟨0, cs⟩) r 0 = some cs := fun x cs => rowOf_set_eq (by rw [List.length_set]; exact hl2)
  have s5 : ∀ x cs, rowOf ((h2.set r x).set rr ⟨0, cs⟩) rr 0 = some cs := fun x cs => rowOf_set_eq (by rw [List.length_set]; exact hl3)
  have o0 := fun k => on_ok k h2 r rr f 0 w n got tasks frame (by omega) q2
  have w0 : IntKind.i64.wrap ((R.a : Int) + 1) = ((R.a + 1 : Nat) : Int) := by rw [w64 _ (by omega) (by omega)] <;> omega
  have hw : IntKind.i64.wrap ((R.head : Int) - M.av (R.a + 1)) = (R.head : Int) - M.av (R.a + 1) := by unfold small at hv; exact w64 _ (by omega) (by omega)
  unfold opR at q0 q2 o0
  unfold RG.cells at q1 q3
  try simp only [Int.cast_ofNat_Int] at o0
  refine ⟨h2.set r ⟨0, opR rr f (0 + 1) w n got tasks frame⟩, ?_, X.putO _⟩
  try unfold opR
  generalize ((R.a + 1 : Nat) : Int) = a1 at *
  rw [evX_fun (m := c29) rfl _ _ _ _ P.mem.ne0 rfl]
  simp -implicitDefEqProofs only [c29, q0, q1, q2, q3, s1, s2, s3, s4, s5, e1, o0, w0, hw, hx, Int.add_zero, List.set_set, push_cast, Nat.reduceAdd, Nat.reduceMul, Nat.reduceSub, Nat.reduceLT, Nat.reduceLeDiff, Nat.reduceEqDiff, Nat.reducePow, Int.reduceToNat, Int.reduceLT, Int.reduceLE, Int.reduceNeg, Int.reduceEq, Int.reducePow, reduceIte, reduceCtorEq, Int.reduceMul, Int.reduceAdd, Int.reduceSub, Int.reduceMod, Int.reduceDiv, Int.reduceTDiv, Int.reduceTMod, iter_s]
theorem publish1 (k : Nat) (hf : (R.head : Int) ≤ 1000000) (P : RPre h M row r rr tt R (opR rr f 1 w n got tasks frame)) :
    ∃ h' row', evF cm (k + 115) 29 [.p r 0 0, .p (row .mem) 0 0, .i tt] h 0 = some (.i 0, h') ∧ RRes h M row r rr h' (M.access tt (R.c + 1 + sl R.k R.head) true) row' (R) (opR rr f 2 w n got tasks frame) := by
  have hl := rowOf_lt P.op
  have hlr := rowOf_lt P.rg
  have := P.na
  have := P.np
  have := P.nl
  have := P.k0
  obtain ⟨B1, B2, B3⟩ := P.big
  have q0 := P.op
  have q1 := P.rg
  have hs := sl_lt P.k0 (R.head : Int)
  have es := fun k lim => slot_ok k lim h rr R (R.head : Int) P.rg (by unfold small; omega) P.k0 (by omega)
  obtain ⟨h2, row2, e1, H2, hm2, F2⟩ := write_ok (k + 3) h M row P.mem tt (R.c + 1 + sl R.k R.head) P.tt (by omega) P.ops P.cl
  have hl2 : r < h2.length := Nat.lt_of_lt_of_le hl F2.le
  have hl3 : rr < h2.length := Nat.lt_of_lt_of_le hlr F2.le
  have q2 := F2.keep P.op P.no
  have q3 := F2.keep P.rg P.nr
  have X := RRes.begin P H2 hm2 F2
  have s1 : ∀ cs, rowOf (h2.set r ⟨0, cs⟩) r 0 = some cs := fun cs => rowOf_set_eq hl2
  have s2 : ∀ (Y : List Row) x, rowOf (Y.set r x) rr 0 = rowOf Y rr 0 := fun Y x => rowOf_set_ne P.ne
  have s3 : ∀ (Y : List Row) x, rowOf (Y.set rr x) r 0 = rowOf Y r 0 := fun Y x => rowOf_set_ne (Ne.symm P.ne)
  have s4 : ∀ x cs, rowOf ((h2.set rr x).set r ⟨0, cs⟩) r 0 = some cs := fun x cs => rowOf_set_eq (by rw [List.length_set]; exact hl2)
  have s5 : ∀ x cs, rowOf ((h2.set r x).set rr ⟨0, cs⟩) rr 0 = some cs := fun x cs => rowOf_set_eq (by rw [List.length_set]; exact hl3)
  have o0 := fun k => on_ok k h2 r rr f 1 w n got tasks frame (by omega) q2
  have w0 : IntKind.i64.wrap ((R.c : Int) + 1) = ((R.c + 1 : Nat) : Int) := by rw [w64 _ (by omega) (by omega)] <;> omega
  have w1 : IntKind.i64.wrap (((R.c + 1 : Nat) : Int) + ((sl R.k R.head : Nat) : Int)) = ((R.c + 1 + sl R.k R.head : Nat) : Int) := by rw [w64 _ (by omega) (by omega)] <;> omega
  unfold opR at q0 q2 o0
  unfold RG.cells at q1 q3
  try simp only [Int.cast_ofNat_Int] at o0
  refine ⟨h2.set r ⟨0, opR rr f (1 + 1) w n got tasks frame⟩, row2, ?_, X.putO _⟩
  try unfold opR
  generalize ((sl R.k R.head : Nat) : Int) = q at *
  generalize ((R.c + 1 + sl R.k R.head : Nat) : Int) = a2 at *
  generalize ((R.c + 1 : Nat) : Int) = a1 at *
  rw [evX_fun (m := c29) rfl _ _ _ _ P.mem.ne0 rfl]
  simp -implicitDefEqProofs only [c29, q0, q1, q2, q3, s1, s2, s3, s4, s5, e1, es, call_Q, quietR_mk, flat, flatL, o0, w0, w1, Int.add_zero, List.set_set, push_cast, Nat.reduceAdd, Nat.reduceMul, Nat.reduceSub, Nat.reduceLT, Nat.reduceLeDiff, Nat.reduceEqDiff, Nat.reducePow, Int.reduceToNat, Int.reduceLT, Int.reduceLE, Int.reduceNeg, Int.reduceEq, Int.reducePow, reduceIte, reduceCtorEq, Int.reduceMul, Int.reduceAdd, Int.reduceSub, Int.reduceMod, Int.reduceDiv, Int.reduceTDiv, Int.reduceTMod, iter_s]
theorem publish2 (k : Nat) (hf : (R.head : Int) ≤ 1000000) (P : RPre h M row r rr tt R (opR rr f 2 w n got tasks frame)) :
    ∃ h' row', evF cm (k + 115) 29 [.p r 0 0, .p (row .mem) 0 0, .i tt] h 0 = some (.i 0, h') ∧ RRes h M row r rr h' (M.store tt (R.a + 3 + sl R.k R.head) tasks) row' (R) (opR rr f 3 w n got tasks frame) := by
  have hl := rowOf_lt P.op
  have hlr := rowOf_lt P.rg
  have := P.na
  have := P.np
  have := P.nl
  have := P.k0
  obtain ⟨B1, B2, B3⟩ := P.big
  have q0 := P.op
  have q1 := P.rg
  have hs := sl_lt P.k0 (R.head : Int)
  have es := fun k lim => slot_ok k lim h rr R (R.head : Int) P.rg (by unfold small; omega) P.k0 (by omega)
  obtain ⟨h2, row2, e1, H2, hm2, F2⟩ := store_ok (k + 4) h M row P.mem tt (R.a + 3 + sl R.k R.head) tasks P.tt (by omega) P.ops
  have hl2 : r < h2.length := Nat.lt_of_lt_of_le hl F2.le
  have hl3 : rr < h2.length := Nat.lt_of_lt_of_le hlr F2.le
  have q2 := F2.keep P.op P.no
  have q3 := F2.keep P.rg P.nr
  have X := RRes.begin P H2 hm2 F2
  have s1 : ∀ cs, rowOf (h2.set r ⟨0, cs⟩) r 0 = some cs := fun cs => rowOf_set_eq hl2
  have s2 : ∀ (Y : List Row) x, rowOf (Y.set r x) rr 0 = rowOf Y rr 0 := fun Y x => rowOf_set_ne P.ne
  have s3 : ∀ (Y : List Row) x, rowOf (Y.set rr x) r 0 = rowOf Y r 0 := fun Y x => rowOf_set_ne (Ne.symm P.ne)
  have s4 : ∀ x cs, rowOf ((h2.set rr x).set r ⟨0, cs⟩) r 0 = some cs := fun x cs => rowOf_set_eq (by rw [List.length_set]; exact hl2)
  have s5 : ∀ x cs, rowOf ((h2.set r x).set rr ⟨0, cs⟩) rr 0 = some cs := fun x cs => rowOf_set_eq (by rw [List.length_set]; exact hl3)
  have o0 := fun k => on_ok k h2 r rr f 2 w n got tasks frame (by omega) q2
  have w0 : IntKind.i64.wrap ((R.a : Int) + 3) = ((R.a + 3 : Nat) : Int) := by rw [w64 _ (by omega) (by omega)] <;> omega
  have w1 : IntKind.i64.wrap (((R.a + 3 : Nat) : Int) + ((sl R.k R.head : Nat) : Int)) = ((R.a + 3 + sl R.k R.head : Nat) : Int) := by rw [w64 _ (by omega) (by omega)] <;> omega
  unfold opR at q0 q2 o0
  unfold RG.cells at q1 q3
  try simp only [Int.cast_ofNat_Int] at o0
  refine ⟨h2.set r ⟨0, opR rr f (2 + 1) w n got tasks frame⟩, row2, ?_, X.putO _⟩
  try unfold opR
  generalize ((sl R.k R.head : Nat) : Int) = q at *
  generalize ((R.a + 3 + sl R.k R.head : Nat) : Int) = a2 at *
  generalize ((R.a + 3 : Nat) : Int) = a1 at *
  rw [evX_fun (m := c29) rfl _ _ _ _ P.mem.ne0 rfl]
  simp -implicitDefEqProofs only [c29, q0, q1, q2, q3, s1, s2, s3, s4, s5, e1, es, call_Q, quietR_mk, flat, flatL, o0, w0, w1, Int.add_zero, List.set_set, push_cast, Nat.reduceAdd, Nat.reduceMul, Nat.reduceSub, Nat.reduceLT, Nat.reduceLeDiff, Nat.reduceEqDiff, Nat.reducePow, Int.reduceToNat, Int.reduceLT, Int.reduceLE, Int.reduceNeg, Int.reduceEq, Int.reducePow, reduceIte, reduceCtorEq, Int.reduceMul, Int.reduceAdd, Int.reduceSub, Int.reduceMod, Int.reduceDiv, Int.reduceTDiv, Int.reduceTMod, iter_s]
theorem publish3 (k : Nat) (hf : (R.head : Int) ≤ 1000000) (P : RPre h M row r rr tt R (opR rr f 3 w n got tasks frame)) :
    ∃ h' row', evF cm (k + 115) 29 [.p r 0 0, .p (row .mem) 0 0, .i tt] h 0 = some (.i 0, h') ∧ RRes h M row r rr h' (M.store tt R.a (R.head + 1 : Nat)) row' ({ R with head := R.head + 1 }) (opR rr f 3 1 n got tasks R.head) := by
  have hl := rowOf_lt P.op
  have hlr := rowOf_lt P.rg
  have := P.na
  have := P.np
  have := P.nl
  have := P.k0
  obtain ⟨B1, B2, B3⟩ := P.big
  have q0 := P.op
  have q1 := P.rg
  obtain ⟨h2, row2, e1, H2, hm2, F2⟩ := store_ok (k + 4) h M row P.mem tt (R.a) (R.head + 1 : Nat) P.tt (by omega) P.ops
  have hl2 : r < h2.length := Nat.lt_of_lt_of_le hl F2.le
  have hl3 : rr < h2.length := Nat.lt_of_lt_of_le hlr F2.le
  have q2 := F2.keep P.op P.no
  have q3 := F2.keep P.rg P.nr
  have X := RRes.begin P H2 hm2 F2
  have s1 : ∀ cs, rowOf (h2.set r ⟨0, cs⟩) r 0 = some cs := fun cs => rowOf_set_eq hl2
  have s2 : ∀ (Y : List Row) x, rowOf (Y.set r x) rr 0 = rowOf Y rr 0 := fun Y x => rowOf_set_ne P.ne
  have s3 : ∀ (Y : List Row) x, rowOf (Y.set rr x) r 0 = rowOf Y r 0 := fun Y x => rowOf_set_ne (Ne.symm P.ne)
  have s4 : ∀ x cs, rowOf ((h2.set rr x).set r ⟨0, cs⟩) r 0 = some cs := fun x cs => rowOf_set_eq (by rw [List.length_set]; exact hl2)
  have s5 : ∀ x cs, rowOf ((h2.set r x).set rr ⟨0, cs⟩) rr 0 = some cs := fun x cs => rowOf_set_eq (by rw [List.length_set]; exact hl3)
  have o0 := fun k => over_ok k ((h2.set r ⟨0, opR rr f 3 w n got tasks R.head⟩).set rr ⟨0, ({ R with head := R.head + 1 } : RG).cells⟩) r rr f 3 w 1 n got tasks R.head (by rw [s3]; exact s1 _)
  have w0 : IntKind.i64.wrap ((R.a : Int)) = ((R.a : Nat) : Int) := by rw [w64 _ (by omega) (by omega)] <;> omega
  have w1 : IntKind.i64.wrap ((R.head : Int) + 1) = ((R.head + 1 : Nat) : Int) := by rw [w64 _ (by omega) (by omega)] <;> omega
  unfold opR at q0 q2 o0
  unfold RG.cells at q1 q3
  try simp only [Int.cast_ofNat_Int] at o0
  refine ⟨((h2.set r ⟨0, opR rr f 3 w n got tasks R.head⟩).set rr ⟨0, ({ R with head := R.head + 1 } : RG).cells⟩).set r ⟨0, opR rr f 3 1 n got tasks R.head⟩, row2, ?_, ((X.putO _).putR _).putO _⟩
  try unfold opR
  unfold RG.cells
  unfold RG.cells at o0
  dsimp only at o0
  try simp only [Int.cast_ofNat_Int] at o0
  generalize ((R.head + 1 : Nat) : Int) = hd1 at *
  rw [evX_fun (m := c29) rfl _ _ _ _ P.mem.ne0 rfl]
  simp -implicitDefEqProofs only [c29, q0, q1, q2, q3, s1, s2, s3, s4, s5, e1, o0, w0, w1, Int.add_zero, List.set_set, push_cast, Nat.reduceAdd, Nat.reduceMul, Nat.reduceSub, Nat.reduceLT, Nat.reduceLeDiff, Nat.reduceEqDiff, Nat.reducePow, Int.reduceToNat, Int.reduceLT, Int.reduceLE, Int.reduceNeg, Int.reduceEq, Int.reducePow, reduceIte, reduceCtorEq, Int.reduceMul, Int.reduceAdd, Int.reduceSub, Int.reduceMod, Int.reduceDiv, Int.reduceTDiv, Int.reduceTMod, iter_s]
theorem await0 (k : Nat) (hx : M.av (R.a + 1) < n) (P : RPre h M row r rr tt R (opR rr f 0 w n got tasks frame)) :
    ∃ h', evF cm (k + 115) 32 [.p r 0 0, .p (row .mem) 0 0, .i tt] h 0 = some (.i 0, h') ∧ RRes h M row r rr h' (M.load tt (R.a + 1)) row (R) (opR rr f 0 w n got tasks frame) := by
  have hl := rowOf_lt P.op
  have hlr := rowOf_lt P.rg
  have := P.na
  have := P.np
  have := P.nl
  have := P.k0
  obtain ⟨B1, B2, B3⟩ := P.big
  have q0 := P.op
  have q1 := P.rg
  obtain ⟨h2, e1, H2, F2⟩ := load_ok (k + 4) h M row P.mem tt (R.a + 1) P.tt (by omega) P.ops
  have hl2 : r < h2.length := Nat.lt_of_lt_of_le hl F2.le
  have hl3 : rr < h2.length := Nat.lt_of_lt_of_le hlr F2.le
  have q2 := F2.keep P.op P.no
  have q3 := F2.keep P.rg P.nr
  have X := RRes.begin P H2 rfl F2
  have s1 : ∀ cs, rowOf (h2.set r ⟨0, cs⟩) r 0 = some cs := fun cs => rowOf_set_eq hl2
  have s2 : ∀ (Y : List Row) x, rowOf (Y.set r x) rr 0 = rowOf Y rr 0 := fun Y x => rowOf_set_ne P.ne
  have s3 : ∀ (Y : List Row) x, rowOf (Y.set rr x) r 0 = rowOf Y r 0 := fun Y x => rowOf_set_ne (Ne.symm P.ne)
  have s4 : ∀ x cs, rowOf ((h2.set rr x).set r ⟨0, cs⟩) r 0 = some cs := fun x cs => rowOf_set_eq (by rw [List.length_set]; exact hl2)
  have s5 : ∀ x cs, rowOf ((h2.set r x).set rr ⟨0, cs⟩) rr 0 = some cs := fun x cs => rowOf_set_eq (by rw [List.length_set]; exact hl3)
  have w0 : IntKind.i64.wrap ((R.a : Int) + 1) = ((R.a + 1 : Nat) : Int) := by rw [w64 _ (by omega) (by omega)] <;> omega
  unfold opR at q0 q2 
  unfold RG.cells at q1 q3
  refine ⟨h2, ?_, X⟩
  try unfold opR
  generalize ((R.a + 1 : Nat) : Int) = a1 at *
  rw [evX_fun (m := c32) rfl _ _ _ _ P.mem.ne0 rfl]
  simp -implicitDefEqProofs only [c32, q0, q1, q2, q3, s1, s2, s3, s4, s5, e1, w0, hx, Int.add_zero, List.set_set, push_cast, Nat.reduceAdd, Nat.reduceMul, Nat.reduceSub, Nat.reduceLT, Nat.reduceLeDiff, Nat.reduceEqDiff, Nat.reducePow, Int.reduceToNat, Int.reduceLT, Int.reduceLE, Int.reduceNeg, Int.reduceEq, Int.reducePow, reduceIte, reduceCtorEq, Int.reduceMul, Int.reduceAdd, Int.reduceSub, Int.reduceMod, Int.reduceDiv, Int.reduceTDiv, Int.reduceTMod, iter_s]
theorem await1 (k : Nat) (hx : ¬ M.av (R.a + 1) < n) (P : RPre h M row r rr tt R (opR rr f 0 w n got tasks frame)) :
    ∃ h', evF cm (k + 115) 32 [.p r 0 0, .p (row .mem) 0 0, .i tt] h 0 = some (.i 0, h') ∧ RRes h M row r rr h' (M.load tt (R.a + 1)) row (R) (opR rr f 0 1 n got tasks frame) := by
  have hl := rowOf_lt P.op
  have hlr := rowOf_lt P.rg
  have := P.na
  have := P.np
  have := P.nl
  have := P.k0
  obtain ⟨B1, B2, B3⟩ := P.big
  have q0 := P.op
  have q1 := P.rg
  obtain ⟨h2, e1, H2, F2⟩ := load_ok (k + 4) h M row P.mem tt (R.a + 1) P.tt (by omega) P.ops
  have hl2 : r < h2.length := Nat.lt_of_lt_of_le hl F2.le
  have hl3 : rr < h2.length := Nat.lt_of_lt_of_le hlr F2.le
  have q2 := F2.keep P.op P.no
  have q3 := F2.keep P.rg P.nr
  have X := RRes.begin P H2 rfl F2
  have s1 : ∀ cs, rowOf (h2.set r ⟨0, cs⟩) r 0 = some cs := fun cs => rowOf_set_eq hl2
  have s2 : ∀ (Y : List Row) x, rowOf (Y.set r x) rr 0 = rowOf Y rr 0 := fun Y x => rowOf_set_ne P.ne
  have s3 : ∀ (Y : List Row) x, rowOf (Y.set rr x) r 0 = rowOf Y r 0 := fun Y x => rowOf_set_ne (Ne.symm P.ne)
  have s4 : ∀ x cs, rowOf ((h2.set rr x).set r ⟨0, cs⟩) r 0 = some cs := fun x cs => rowOf_set_eq (by rw [List.length_set]; exact hl2)
  have s5 : ∀ x cs, rowOf ((h2.set r x).set rr ⟨0, cs⟩) rr 0 = some cs := fun x cs => rowOf_set_eq (by rw [List.length_set]; exact hl3)
  have o0 := fun k => over_ok k h2 r rr f 0 w 1 n got tasks frame q2
  have w0 : IntKind.i64.wrap ((R.a : Int) + 1) = ((R.a + 1 : Nat) : Int) := by rw [w64 _ (by omega) (by omega)] <;> omega
  unfold opR at q0 q2 o0
  unfold RG.cells at q1 q3
  try simp only [Int.cast_ofNat_Int] at o0
  refine ⟨h2.set r ⟨0, opR rr f 0 1 n got tasks frame⟩, ?_, X.putO _⟩
  try unfold opR
  generalize ((R.a + 1 : Nat) : Int) = a1 at *
  rw [evX_fun (m := c32) rfl _ _ _ _ P.mem.ne0 rfl]
  simp -implicitDefEqProofs only [c32, q0, q1, q2, q3, s1, s2, s3, s4, s5, e1, o0, w0, hx, Int.add_zero, List.set_set, push_cast, Nat.reduceAdd, Nat.reduceMul, Nat.reduceSub, Nat.reduceLT, Nat.reduceLeDiff, Nat.reduceEqDiff, Nat.reducePow, Int.reduceToNat, Int.reduceLT, Int.reduceLE, Int.reduceNeg, Int.reduceEq, Int.reducePow, reduceIte, reduceCtorEq, Int.reduceMul, Int.reduceAdd, Int.reduceSub, Int.reduceMod, Int.reduceDiv, Int.reduceTDiv, Int.reduceTMod, iter_s]
theorem stop0 (k : Nat)  (P : RPre h M row r rr tt R (opR rr f 0 w n got tasks frame)) :
    ∃ h' row', evF cm (k + 115) 33 [.p r 0 0, .p (row .mem) 0 0, .i tt] h 0 = some (.i 0, h') ∧ RRes h M row r rr h' (M.store tt (R.a + 2) 1) row' (R) (opR rr f 0 1 n got tasks frame) := by
  have hl := rowOf_lt P.op
  have hlr := rowOf_lt P.rg
  have := P.na
  have := P.np
  have := P.nl
  have := P.k0
  obtain ⟨B1, B2, B3⟩ := P.big
  have q0 := P.op
  have q1 := P.rg
  obtain ⟨h2, row2, e1, H2, hm2, F2⟩ := store_ok (k + 4) h M row P.mem tt (R.a + 2) 1 P.tt (by omega) P.ops
  have hl2 : r < h2.length := Nat.lt_of_lt_of_le hl F2.le
  have hl3 : rr < h2.length := Nat.lt_of_lt_of_le hlr F2.le
  have q2 := F2.keep P.op P.no
  have q3 := F2.keep P.rg P.nr
  have X := RRes.begin P H2 hm2 F2
  have s1 : ∀ cs, rowOf (h2.set r ⟨0, cs⟩) r 0 = some cs := fun cs => rowOf_set_eq hl2
  have s2 : ∀ (Y : List Row) x, rowOf (Y.set r x) rr 0 = rowOf Y rr 0 := fun Y x => rowOf_set_ne P.ne
  have s3 : ∀ (Y : List Row) x, rowOf (Y.set rr x) r 0 = rowOf Y r 0 := fun Y x => rowOf_set_ne (Ne.symm P.ne)
  have s4 : ∀ x cs, rowOf ((h2.set rr x).set r ⟨0, cs⟩) r 0 = some cs := fun x cs => rowOf_set_eq (by rw [List.length_set]; exact hl2)
  have s5 : ∀ x cs, rowOf ((h2.set r x).set rr ⟨0, cs⟩) rr 0 = some cs := fun x cs => rowOf_set_eq (by rw [List.length_set]; exact hl3)
  have o0 := fun k => over_ok k h2 r rr f 0 w 1 n got tasks frame q2
  have w0 : IntKind.i64.wrap ((R.a : Int) + 2) = ((R.a + 2 : Nat) : Int) := by rw [w64 _ (by omega) (by omega)] <;> omega
  unfold opR at q0 q2 o0
  unfold RG.cells at q1 q3
  try simp only [Int.cast_ofNat_Int] at o0
  refine ⟨h2.set r ⟨0, opR rr f 0 1 n got tasks frame⟩, row2, ?_, X.putO _⟩
  try unfold opR
  generalize ((R.a + 2 : Nat) : Int) = a1 at *
  rw [evX_fun (m := c33) rfl _ _ _ _ P.mem.ne0 rfl]
  simp -implicitDefEqProofs only [c33, q0, q1, q2, q3, s1, s2, s3, s4, s5, e1, o0, w0, Int.add_zero, List.set_set, push_cast, Nat.reduceAdd, Nat.reduceMul, Nat.reduceSub, Nat.reduceLT, Nat.reduceLeDiff, Nat.reduceEqDiff, Nat.reducePow, Int.reduceToNat, Int.reduceLT, Int.reduceLE, Int.reduceNeg, Int.reduceEq, Int.reducePow, reduceIte, reduceCtorEq, Int.reduceMul, Int.reduceAdd, Int.reduceSub, Int.reduceMod, Int.reduceDiv, Int.reduceTDiv, Int.reduceTMod, iter_s]
theorem look0 (k : Nat)  (P : RPre h M row r rr tt R (opR rr f 0 w n got tasks frame)) :
    ∃ h', evF cm (k + 114) 41 [.p r 0 0, .p (row .mem) 0 0, .i tt] h 0 = some (.i 0, h') ∧ RRes h M row r rr h' (M.load tt (R.a + 1)) row (R) (opR rr f 1 w (M.av (R.a + 1)) got tasks frame) := by
  have hl := rowOf_lt P.op
  have hlr := rowOf_lt P.rg
  have := P.na
  have := P.np
  have := P.nl
  have := P.k0
  obtain ⟨B1, B2, B3⟩ := P.big
  have q0 := P.op
  have q1 := P.rg
  obtain ⟨h2, e1, H2, F2⟩ := load_ok (k + 3) h M row P.mem tt (R.a + 1) P.tt (by omega) P.ops
  have hl2 : r < h2.length := Nat.lt_of_lt_of_le hl F2.le
  have hl3 : rr < h2.length := Nat.lt_of_lt_of_le hlr F2.le
  have q2 := F2.keep P.op P.no
  have q3 := F2.keep P.rg P.nr
  have X := RRes.begin P H2 rfl F2
  have s1 : ∀ cs, rowOf (h2.set r ⟨0, cs⟩) r 0 = some cs := fun cs => rowOf_set_eq hl2
  have s2 : ∀ (Y : List Row) x, rowOf (Y.set r x) rr 0 = rowOf Y rr 0 := fun Y x => rowOf_set_ne P.ne
  have s3 : ∀ (Y : List Row) x, rowOf (Y.set rr x) r 0 = rowOf Y r 0 := fun Y x => rowOf_set_ne (Ne.symm P.ne)
  have s4 : ∀ x cs, rowOf ((h2.set rr x).set r ⟨0, cs⟩) r 0 = some cs := fun x cs => rowOf_set_eq (by rw [List.length_set]; exact hl2)
  have s5 : ∀ x cs, rowOf ((h2.set r x).set rr ⟨0, cs⟩) rr 0 = some cs := fun x cs => rowOf_set_eq (by rw [List.length_set]; exact hl3)
  have o0 := fun k => on_ok k (h2.set r ⟨0, opR rr f 0 w (M.av (R.a + 1)) got tasks frame⟩) r rr f 0 w (M.av (R.a + 1)) got tasks frame (by omega) (s1 _)
  have w0 : IntKind.i64.wrap ((R.a : Int) + 1) = ((R.a + 1 : Nat) : Int) := by rw [w64 _ (by omega) (by omega)] <;> omega
  unfold opR at q0 q2 o0
  unfold RG.cells at q1 q3
  try simp only [Int.cast_ofNat_Int] at o0
  refine ⟨h2.set r ⟨0, opR rr f (0 + 1) w (M.av (R.a + 1)) got tasks frame⟩, ?_, X.putO _⟩
  try unfold opR
  generalize ((R.a + 1 : Nat) : Int) = a1 at *
  rw [evX_fun (m := c41) rfl _ _ _ _ P.mem.ne0 rfl]
  simp -implicitDefEqProofs only [c41, q0, q1, q2, q3, s1, s2, s3, s4, s5, e1, o0, w0, Int.add_zero, List.set_set, push_cast, Nat.reduceAdd, Nat.reduceMul, Nat.reduceSub, Nat.reduceLT, Nat.reduceLeDiff, Nat.reduceEqDiff, Nat.reducePow, Int.reduceToNat, Int.reduceLT, Int.reduceLE, Int.reduceNeg, Int.reduceEq, Int.reducePow, reduceIte, reduceCtorEq, Int.reduceMul, Int.reduceAdd, Int.reduceSub, Int.reduceMod, Int.reduceDiv, Int.reduceTDiv, Int.reduceTMod, iter_s]
theorem look1 (k : Nat)  (P : RPre h M row r rr tt R (opR rr f 1 w n got tasks frame)) :
    ∃ h', evF cm (k + 114) 41 [.p r 0 0, .p (row .mem) 0 0, .i tt] h 0 = some (.i 0, h') ∧ RRes h M row r rr h' (M.load tt R.a) row (R) (opR rr f 2 w n (M.av R.a) tasks frame) := by
  have hl := rowOf_lt P.op
  have hlr := rowOf_lt P.rg
  have := P.na
  have := P.np
  have := P.nl
  have := P.k0
  obtain ⟨B1, B2, B3⟩ := P.big
  have q0 := P.op
  have q1 := P.rg
  obtain ⟨h2, e1, H2, F2⟩ := load_ok (k + 3) h M row P.mem tt (R.a) P.tt (by omega) P.ops
  have hl2 : r < h2.length := Nat.lt_of_lt_of_le hl F2.le
  have hl3 : rr < h2.length := Nat.lt_of_lt_of_le hlr F2.le
  have q2 := F2.keep P.op P.no
  have q3 := F2.keep P.rg P.nr
  have X := RRes.begin P H2 rfl F2
  have s1 : ∀ cs, rowOf (h2.set r ⟨0, cs⟩) r 0 = some cs := fun cs => rowOf_set_eq hl2
  have s2 : ∀ (Y : List Row) x, rowOf (Y.set r x) rr 0 = rowOf Y rr 0 := fun Y x => rowOf_set_ne P.ne
  have s3 : ∀ (Y : List Row) x, rowOf (Y.set rr x) r 0 = rowOf Y r 0 := fun Y x => rowOf_set_ne (Ne.symm P.ne)
  have s4 : ∀ x cs, rowOf ((h2.set rr x).set r ⟨0, cs⟩) r 0 = some cs := fun x cs => rowOf_set_eq (by rw [List.length_set]; exact hl2)
  have s5 : ∀ x cs, rowOf ((h2.set r x).set rr ⟨0, cs⟩) rr 0 = some cs := fun x cs => rowOf_set_eq (by rw [List.length_set]; exact hl3)
  have o0 := fun k => on_ok k (h2.set r ⟨0, opR rr f 1 w n (M.av R.a) tasks frame⟩) r rr f 1 w n (M.av R.a) tasks frame (by omega) (s1 _)
  have w0 : IntKind.i64.wrap ((R.a : Int)) = ((R.a : Nat) : Int) := by rw [w64 _ (by omega) (by omega)] <;> omega
  unfold opR at q0 q2 o0
  unfold RG.cells at q1 q3
  try simp only [Int.cast_ofNat_Int] at o0
  refine ⟨h2.set r ⟨0, opR rr f (1 + 1) w n (M.av R.a) tasks frame⟩, ?_, X.putO _⟩
  try unfold opR
  rw [evX_fun (m := c41) rfl _ _ _ _ P.mem.ne0 rfl]
  simp -implicitDefEqProofs only [c41, q0, q1, q2, q3, s1, s2, s3, s4, s5, e1, o0, w0, Int.add_zero, List.set_set, push_cast, Nat.reduceAdd, Nat.reduceMul, Nat.reduceSub, Nat.reduceLT, Nat.reduceLeDiff, Nat.reduceEqDiff, Nat.reducePow, Int.reduceToNat, Int.reduceLT, Int.reduceLE, Int.reduceNeg, Int.reduceEq, Int.reducePow, reduceIte, reduceCtorEq, Int.reduceMul, Int.reduceAdd, Int.reduceSub, Int.reduceMod, Int.reduceDiv, Int.reduceTDiv, Int.reduceTMod, iter_s]
theorem idle2 (k : Nat) (hx : M.av (R.a + 2) = 0) (P : RPre h M row r rr tt R (opR rr f 2 w n got tasks frame)) :
    ∃ h', evF cm (k + 114) 42 [.p r 0 0, .p (row .mem) 0 0, .i tt] h 0 = some (.i 0, h') ∧ RRes h M row r rr h' (M.load tt (R.a + 2)) row (R) (opR rr f 2 2 n got tasks frame) := by
  have hl := rowOf_lt P.op
  have hlr := rowOf_lt P.rg
  have := P.na
  have := P.np
  have := P.nl
  have := P.k0
  obtain ⟨B1, B2, B3⟩ := P.big
  have q0 := P.op
  have q1 := P.rg
  obtain ⟨h2, e1, H2, F2⟩ := load_ok (k + 3) h M row P.mem tt (R.a + 2) P.tt (by omega) P.ops
  have hl2 : r < h2.length := Nat.lt_of_lt_of_le hl F2.le
  have hl3 : rr < h2.length := Nat.lt_of_lt_of_le hlr F2.le
  have q2 := F2.keep P.op P.no
  have q3 := F2.keep P.rg P.nr
  have X := RRes.begin P H2 rfl F2
  have s1 : ∀ cs, rowOf (h2.set r ⟨0, cs⟩) r 0 = some cs := fun cs => rowOf_set_eq hl2
  have s2 : ∀ (Y : List Row) x, rowOf (Y.set r x) rr 0 = rowOf Y rr 0 := fun Y x => rowOf_set_ne P.ne
  have s3 : ∀ (Y : List Row) x, rowOf (Y.set rr x) r 0 = rowOf Y r 0 := fun Y x => rowOf_set_ne (Ne.symm P.ne)
  have s4 : ∀ x cs, rowOf ((h2.set rr x).set r ⟨0, cs⟩) r 0 = some cs := fun x cs => rowOf_set_eq (by rw [List.length_set]; exact hl2)
  have s5 : ∀ x cs, rowOf ((h2.set r x).set rr ⟨0, cs⟩) rr 0 = some cs := fun x cs => rowOf_set_eq (by rw [List.length_set]; exact hl3)
  have o0 := fun k => over_ok k h2 r rr f 2 w 2 n got tasks frame q2
  have w0 : IntKind.i64.wrap ((R.a : Int) + 2) = ((R.a + 2 : Nat) : Int) := by rw [w64 _ (by omega) (by omega)] <;> omega
  unfold opR at q0 q2 o0
  unfold RG.cells at q1 q3
  try simp only [Int.cast_ofNat_Int] at o0
  refine ⟨h2.set r ⟨0, opR rr f 2 2 n got tasks frame⟩, ?_, X.putO _⟩
  try unfold opR
  generalize ((R.a + 2 : Nat) : Int) = a1 at *
  rw [evX_fun (m := c42) rfl _ _ _ _ P.mem.ne0 rfl]
  simp -implicitDefEqProofs only [c42, q0, q1, q2, q3, s1, s2, s3, s4, s5, e1, o0, w0, hx, Int.add_zero, List.set_set, push_cast, Nat.reduceAdd, Nat.reduceMul, Nat.reduceSub, Nat.reduceLT, Nat.reduceLeDiff, Nat.reduceEqDiff, Nat.reducePow, Int.reduceToNat, Int.reduceLT, Int.reduceLE, Int.reduceNeg, Int.reduceEq, Int.reducePow, reduceIte, reduceCtorEq, Int.reduceMul, Int.reduceAdd, Int.reduceSub, Int.reduceMod, Int.reduceDiv, Int.reduceTDiv, Int.reduceTMod, iter_s]
theorem idle3 (k : Nat) (hx : ¬ M.av (R.a + 2) = 0) (P : RPre h M row r rr tt R (opR rr f 2 w n got tasks frame)) :
    ∃ h', evF cm (k + 114) 42 [.p r 0 0, .p (row .mem) 0 0, .i tt] h 0 = some (.i 0, h') ∧ RRes h M row r rr h' (M.load tt (R.a + 2)) row (R) (opR rr f 2 3 n got tasks frame) := by
  have hl := rowOf_lt P.op
  have hlr := rowOf_lt P.rg
  have := P.na
  have := P.np
  have := P.nl
  have := P.k0
  obtain ⟨B1, B2, B3⟩ := P.big
  have q0 := P.op
  have q1 := P.rg
  obtain ⟨h2, e1, H2, F2⟩ := load_ok (k + 3) h M row P.mem tt (R.a + 2) P.tt (by omega) P.ops
  have hl2 : r < h2.length := Nat.lt_of_lt_of_le hl F2.le
  have hl3 : rr < h2.length := Nat.lt_of_lt_of_le hlr F2.le
  have q2 := F2.keep P.op P.no
  have q3 := F2.keep P.rg P.nr
  have X := RRes.begin P H2 rfl F2
  have s1 : ∀ cs, rowOf (h2.set r ⟨0, cs⟩) r 0 = some cs := fun cs => rowOf_set_eq hl2
  have s2 : ∀ (Y : List Row) x, rowOf (Y.set r x) rr 0 = rowOf Y rr 0 := fun Y x => rowOf_set_ne P.ne
  have s3 : ∀ (Y : List Row) x, rowOf (Y.set rr x) r 0 = rowOf Y r 0 := fun Y x => rowOf_set_ne (Ne.symm P.ne)
  have s4 : ∀ x cs, rowOf ((h2.set rr x).set r ⟨0, cs⟩) r 0 = some cs := fun x cs => rowOf_set_eq (by rw [List.length_set]; exact hl2)
  have s5 : ∀ x cs, rowOf ((h2.set r x).set rr ⟨0, cs⟩) rr 0 = some cs := fun x cs => rowOf_set_eq (by rw [List.length_set]; exact hl3)
  have o0 := fun k => over_ok k h2 r rr f 2 w 3 n got tasks frame q2
  have w0 : IntKind.i64.wrap ((R.a : Int) + 2) = ((R.a + 2 : Nat) : Int) := by rw [w64 _ (by omega) (by omega)] <;> omega
  unfold opR at q0 q2 o0
  unfold RG.cells at q1 q3
  try simp only [Int.cast_ofNat_Int] at o0
  refine ⟨h2.set r ⟨0, opR rr f 2 3 n got tasks frame⟩, ?_, X.putO _⟩
  try unfold opR
  generalize ((R.a + 2 : Nat) : Int) = a1 at *
  rw [evX_fun (m := c42) rfl _ _ _ _ P.mem.ne0 rfl]
  simp -implicitDefEqProofs only [c42, q0, q1, q2, q3, s1, s2, s3, s4, s5, e1, o0, w0, hx, Int.add_zero, List.set_set, push_cast, Nat.reduceAdd, Nat.reduceMul, Nat.reduceSub, Nat.reduceLT, Nat.reduceLeDiff, Nat.reduceEqDiff, Nat.reducePow, Int.reduceToNat, Int.reduceLT, Int.reduceLE, Int.reduceNeg, Int.reduceEq, Int.reducePow, reduceIte, reduceCtorEq, Int.reduceMul, Int.reduceAdd, Int.reduceSub, Int.reduceMod, Int.reduceDiv, Int.reduceTDiv, Int.reduceTMod, iter_s]
theorem claim0 (k : Nat)  (P : RPre h M row r rr tt R (opR rr f 0 w n got tasks frame)) :
    ∃ h', evF cm (k + 115) 30 [.p r 0 0, .p (row .mem) 0 0, .i tt] h 0 = some (.i 0, h') ∧ RRes h M row r rr h' (M.load tt (R.a + 1)) row R (opR rr f 1 w (M.av (R.a + 1)) got tasks frame) := by
  obtain ⟨h', e1, X⟩ := look0 k P
  refine ⟨h', ?_, X⟩
  have q0 := P.op
  have q1 := P.rg
  unfold opR at q0
  unfold RG.cells at q1
  rw [evX_fun (m := c30) rfl _ _ _ _ P.mem.ne0 rfl]
  simp -implicitDefEqProofs only [c30, q0, q1, e1, push_cast, Nat.reduceAdd, Nat.reduceMul, Nat.reduceSub, Nat.reduceLT, Nat.reduceLeDiff, Nat.reduceEqDiff, Nat.reducePow, Int.reduceToNat, Int.reduceLT, Int.reduceLE, Int.reduceNeg, Int.reduceEq, Int.reducePow, reduceIte, reduceCtorEq, Int.reduceMul, Int.reduceAdd, Int.reduceSub, Int.reduceMod, Int.reduceDiv, Int.reduceTDiv, Int.reduceTMod, iter_s]
theorem claim1 (k : Nat)  (P : RPre h M row r rr tt R (opR rr f 1 w n got tasks frame)) :
    ∃ h', evF cm (k + 115) 30 [.p r 0 0, .p (row .mem) 0 0, .i tt] h 0 = some (.i 0, h') ∧ RRes h M row r rr h' (M.load tt R.a) row R (opR rr f 2 w n (M.av R.a) tasks frame) := by
  obtain ⟨h', e1, X⟩ := look1 k P
  refine ⟨h', ?_, X⟩
  have q0 := P.op
  have q1 := P.rg
  unfold opR at q0
  unfold RG.cells at q1
  rw [evX_fun (m := c30) rfl _ _ _ _ P.mem.ne0 rfl]
  simp -implicitDefEqProofs only [c30, q0, q1, e1, push_cast, Nat.reduceAdd, Nat.reduceMul, Nat.reduceSub, Nat.reduceLT, Nat.reduceLeDiff, Nat.reduceEqDiff, Nat.reducePow, Int.reduceToNat, Int.reduceLT, Int.reduceLE, Int.reduceNeg, Int.reduceEq, Int.reducePow, reduceIte, reduceCtorEq, Int.reduceMul, Int.reduceAdd, Int.reduceSub, Int.reduceMod, Int.reduceDiv, Int.reduceTDiv, Int.reduceTMod, iter_s]
theorem claim2a (k : Nat) (hg : got ≤ n) (hx : M.av (R.a + 2) = 0) (P : RPre h M row r rr tt R (opR rr f 2 w n got tasks frame)) :
    ∃ h', evF cm (k + 115) 30 [.p r 0 0, .p (row .mem) 0 0, .i tt] h 0 = some (.i 0, h') ∧ RRes h M row r rr h' (M.load tt (R.a + 2)) row R (opR rr f 2 2 n got tasks frame) := by
  obtain ⟨h', e1, X⟩ := idle2 k hx P
  refine ⟨h', ?_, X⟩
  have q0 := P.op
  have q1 := P.rg
  unfold opR at q0
  unfold RG.cells at q1
  rw [evX_fun (m := c30) rfl _ _ _ _ P.mem.ne0 rfl]
  simp -implicitDefEqProofs only [c30, q0, q1, e1, hg, push_cast, Nat.reduceAdd, Nat.reduceMul, Nat.reduceSub, Nat.reduceLT, Nat.reduceLeDiff, Nat.reduceEqDiff, Nat.reducePow, Int.reduceToNat, Int.reduceLT, Int.reduceLE, Int.reduceNeg, Int.reduceEq, Int.reducePow, reduceIte, reduceCtorEq, Int.reduceMul, Int.reduceAdd, Int.reduceSub, Int.reduceMod, Int.reduceDiv, Int.reduceTDiv, Int.reduceTMod, iter_s]
theorem claim2b (k : Nat) (hg : got ≤ n) (hx : ¬ M.av (R.a + 2) = 0) (P : RPre h M row r rr tt R (opR rr f 2 w n got tasks frame)) :
    ∃ h', evF cm (k + 115) 30 [.p r 0 0, .p (row .mem) 0 0, .i tt] h 0 = some (.i 0, h') ∧ RRes h M row r rr h' (M.load tt (R.a + 2)) row R (opR rr f 2 3 n got tasks frame) := by
  obtain ⟨h', e1, X⟩ := idle3 k hx P
  refine ⟨h', ?_, X⟩
  have q0 := P.op
  have q1 := P.rg
  unfold opR at q0
  unfold RG.cells at q1
  rw [evX_fun (m := c30) rfl _ _ _ _ P.mem.ne0 rfl]
  simp -implicitDefEqProofs only [c30, q0, q1, e1, hg, push_cast, Nat.reduceAdd, Nat.reduceMul, Nat.reduceSub, Nat.reduceLT, Nat.reduceLeDiff, Nat.reduceEqDiff, Nat.reducePow, Int.reduceToNat, Int.reduceLT, Int.reduceLE, Int.reduceNeg, Int.reduceEq, Int.reducePow, reduceIte, reduceCtorEq, Int.reduceMul, Int.reduceAdd, Int.reduceSub, Int.reduceMod, Int.reduceDiv, Int.reduceTDiv, Int.reduceTMod, iter_s]
theorem claim2c (k : Nat) (hg : ¬ got ≤ n) (hx : M.lo R.l = -1) (P : RPre h M row r rr tt R (opR rr f 2 w n got tasks frame)) :
    ∃ h', evF cm (k + 115) 30 [.p r 0 0, .p (row .mem) 0 0, .i tt] h 0 = some (.i 0, h') ∧ RRes h M row r rr h' (M.lock tt R.l) row (R) (opR rr f 3 w n got tasks frame) := by
  have hl := rowOf_lt P.op
  have hlr := rowOf_lt P.rg
  have := P.na
  have := P.np
  have := P.nl
  have := P.k0
  obtain ⟨B1, B2, B3⟩ := P.big
  have q0 := P.op
  have q1 := P.rg
  obtain ⟨h2, e1, H2, F2⟩ := lock_ok (k + 4) h M row P.mem tt (R.l) P.tt (by omega) P.ops
  simp only [hx, decide_true] at e1
  have hl2 : r < h2.length := Nat.lt_of_lt_of_le hl F2.le
  have hl3 : rr < h2.length := Nat.lt_of_lt_of_le hlr F2.le
  have q2 := F2.keep P.op P.no
  have q3 := F2.keep P.rg P.nr
  have X := RRes.begin P H2 rfl F2
  have s1 : ∀ cs, rowOf (h2.set r ⟨0, cs⟩) r 0 = some cs := fun cs => rowOf_set_eq hl2
  have s2 : ∀ (Y : List Row) x, rowOf (Y.set r x) rr 0 = rowOf Y rr 0 := fun Y x => rowOf_set_ne P.ne
  have s3 : ∀ (Y : List Row) x, rowOf (Y.set rr x) r 0 = rowOf Y r 0 := fun Y x => rowOf_set_ne (Ne.symm P.ne)
  have s4 : ∀ x cs, rowOf ((h2.set rr x).set r ⟨0, cs⟩) r 0 = some cs := fun x cs => rowOf_set_eq (by rw [List.length_set]; exact hl2)
  have s5 : ∀ x cs, rowOf ((h2.set r x).set rr ⟨0, cs⟩) rr 0 = some cs := fun x cs => rowOf_set_eq (by rw [List.length_set]; exact hl3)
  have o0 := fun k => on_ok k h2 r rr f 2 w n got tasks frame (by omega) q2
  unfold opR at q0 q2 o0
  unfold RG.cells at q1 q3
  try simp only [Int.cast_ofNat_Int] at o0
  refine ⟨h2.set r ⟨0, opR rr f (2 + 1) w n got tasks frame⟩, ?_, X.putO _⟩
  try unfold opR
  rw [evX_fun (m := c30) rfl _ _ _ _ P.mem.ne0 rfl]
  simp -implicitDefEqProofs only [c30, q0, q1, q2, q3, s1, s2, s3, s4, s5, e1, o0, hg, Int.add_zero, List.set_set, push_cast, Nat.reduceAdd, Nat.reduceMul, Nat.reduceSub, Nat.reduceLT, Nat.reduceLeDiff, Nat.reduceEqDiff, Nat.reducePow, Int.reduceToNat, Int.reduceLT, Int.reduceLE, Int.reduceNeg, Int.reduceEq, Int.reducePow, reduceIte, reduceCtorEq, Int.reduceMul, Int.reduceAdd, Int.reduceSub, Int.reduceMod, Int.reduceDiv, Int.reduceTDiv, Int.reduceTMod, iter_s]
theorem claim2d (k : Nat) (hg : ¬ got ≤ n) (hx : ¬ M.lo R.l = -1) (P : RPre h M row r rr tt R (opR rr f 2 w n got tasks frame)) :
    ∃ h', evF cm (k + 115) 30 [.p r 0 0, .p (row .mem) 0 0, .i tt] h 0 = some (.i 0, h') ∧ RRes h M row r rr h' (M.lock tt R.l) row (R) (opR rr f 2 2 n got tasks frame) := by
  have hl := rowOf_lt P.op
  have hlr := rowOf_lt P.rg
  have := P.na
  have := P.np
  have := P.nl
  have := P.k0
  obtain ⟨B1, B2, B3⟩ := P.big
  have q0 := P.op
  have q1 := P.rg
  obtain ⟨h2, e1, H2, F2⟩ := lock_ok (k + 4) h M row P.mem tt (R.l) P.tt (by omega) P.ops
  simp only [hx, decide_false] at e1
  have hl2 : r < h2.length := Nat.lt_of_lt_of_le hl F2.le
  have hl3 : rr < h2.length := Nat.lt_of_lt_of_le hlr F2.le
  have q2 := F2.keep P.op P.no
  have q3 := F2.keep P.rg P.nr
  have X := RRes.begin P H2 rfl F2
  have s1 : ∀ cs, rowOf (h2.set r ⟨0, cs⟩) r 0 = some cs := fun cs => rowOf_set_eq hl2
  have s2 : ∀ (Y : List Row) x, rowOf (Y.set r x) rr 0 = rowOf Y rr 0 := fun Y x => rowOf_set_ne P.ne
  have s3 : ∀ (Y : List Row) x, rowOf (Y.set rr x) r 0 = rowOf Y r 0 := fun Y x => rowOf_set_ne (Ne.symm P.ne)
  have s4 : ∀ x cs, rowOf ((h2.set rr x).set r ⟨0, cs⟩) r 0 = some cs := fun x cs => rowOf_set_eq (by rw [List.length_set]; exact hl2)
  have s5 : ∀ x cs, rowOf ((h2.set r x).set rr ⟨0, cs⟩) rr 0 = some cs := fun x cs => rowOf_set_eq (by rw [List.length_set]; exact hl3)
  have o0 := fun k => over_ok k h2 r rr f 2 w 2 n got tasks frame q2
  unfold opR at q0 q2 o0
  unfold RG.cells at q1 q3
  try simp only [Int.cast_ofNat_Int] at o0
  refine ⟨h2.set r ⟨0, opR rr f 2 2 n got tasks frame⟩, ?_, X.putO _⟩
  try unfold opR
  rw [evX_fun (m := c30) rfl _ _ _ _ P.mem.ne0 rfl]
  simp -implicitDefEqProofs only [c30, q0, q1, q2, q3, s1, s2, s3, s4, s5, e1, o0, hg, Int.add_zero, List.set_set, push_cast, Nat.reduceAdd, Nat.reduceMul, Nat.reduceSub, Nat.reduceLT, Nat.reduceLeDiff, Nat.reduceEqDiff, Nat.reducePow, Int.reduceToNat, Int.reduceLT, Int.reduceLE, Int.reduceNeg, Int.reduceEq, Int.reducePow, reduceIte, reduceCtorEq, Int.reduceMul, Int.reduceAdd, Int.reduceSub, Int.reduceMod, Int.reduceDiv, Int.reduceTDiv, Int.reduceTMod, iter_s]
theorem claim3a (k : Nat) (hx : (R.dealt : Int) = n) (P : RPre h M row r rr tt R (opR rr f 3 w n got tasks frame)) :
    ∃ h' row', evF cm (k + 115) 30 [.p r 0 0, .p (row .mem) 0 0, .i tt] h 0 = some (.i 0, h') ∧ RRes h M row r rr h' (M.access tt R.c false) row' (R) (opR rr f 4 w n got tasks frame) := by
  have hl := rowOf_lt P.op
  have hlr := rowOf_lt P.rg
  have := P.na
  have := P.np
  have := P.nl
  have := P.k0
  obtain ⟨B1, B2, B3⟩ := P.big
  have q0 := P.op
  have q1 := P.rg
  obtain ⟨h2, row2, e1, H2, hm2, F2⟩ := read_ok (k + 3) h M row P.mem tt (R.c) P.tt (by omega) P.ops P.cl
  have hl2 : r < h2.length := Nat.lt_of_lt_of_le hl F2.le
  have hl3 : rr < h2.length := Nat.lt_of_lt_of_le hlr F2.le
  have q2 := F2.keep P.op P.no
  have q3 := F2.keep P.rg P.nr
  have X := RRes.begin P H2 hm2 F2
  have s1 : ∀ cs, rowOf (h2.set r ⟨0, cs⟩) r 0 = some cs := fun cs => rowOf_set_eq hl2
  have s2 : ∀ (Y : List Row) x, rowOf (Y.set r x) rr 0 = rowOf Y rr 0 := fun Y x => rowOf_set_ne P.ne
  have s3 : ∀ (Y : List Row) x, rowOf (Y.set rr x) r 0 = rowOf Y r 0 := fun Y x => rowOf_set_ne (Ne.symm P.ne)
  have s4 : ∀ x cs, rowOf ((h2.set rr x).set r ⟨0, cs⟩) r 0 = some cs := fun x cs => rowOf_set_eq (by rw [List.length_set]; exact hl2)
  have s5 : ∀ x cs, rowOf ((h2.set r x).set rr ⟨0, cs⟩) rr 0 = some cs := fun x cs => rowOf_set_eq (by rw [List.length_set]; exact hl3)
  have o0 := fun k => on_ok k h2 r rr f 3 w n got tasks frame (by omega) q2
  unfold opR at q0 q2 o0
  unfold RG.cells at q1 q3
  try simp only [Int.cast_ofNat_Int] at o0
  refine ⟨h2.set r ⟨0, opR rr f (3 + 1) w n got tasks frame⟩, row2, ?_, X.putO _⟩
  try unfold opR
  rw [evX_fun (m := c30) rfl _ _ _ _ P.mem.ne0 rfl]
  simp -implicitDefEqProofs only [c30, q0, q1, q2, q3, s1, s2, s3, s4, s5, e1, o0, hx, Int.add_zero, List.set_set, push_cast, Nat.reduceAdd, Nat.reduceMul, Nat.reduceSub, Nat.reduceLT, Nat.reduceLeDiff, Nat.reduceEqDiff, Nat.reducePow, Int.reduceToNat, Int.reduceLT, Int.reduceLE, Int.reduceNeg, Int.reduceEq, Int.reducePow, reduceIte, reduceCtorEq, Int.reduceMul, Int.reduceAdd, Int.reduceSub, Int.reduceMod, Int.reduceDiv, Int.reduceTDiv, Int.reduceTMod, iter_s]
theorem claim3b (k : Nat) (hx : ¬ (R.dealt : Int) = n) (P : RPre h M row r rr tt R (opR rr f 3 w n got tasks frame)) :
    ∃ h' row', evF cm (k + 115) 30 [.p r 0 0, .p (row .mem) 0 0, .i tt] h 0 = some (.i 0, h') ∧ RRes h M row r rr h' (M.access tt R.c false) row' (R) (opR rr f 6 w (-1) got tasks frame) := by
  have hl := rowOf_lt P.op
  have hlr := rowOf_lt P.rg
  have := P.na
  have := P.np
  have := P.nl
  have := P.k0
  obtain ⟨B1, B2, B3⟩ := P.big
  have q0 := P.op
  have q1 := P.rg
  obtain ⟨h2, row2, e1, H2, hm2, F2⟩ := read_ok (k + 3) h M row P.mem tt (R.c) P.tt (by omega) P.ops P.cl
  have hl2 : r < h2.length := Nat.lt_of_lt_of_le hl F2.le
  have hl3 : rr < h2.length := Nat.lt_of_lt_of_le hlr F2.le
  have q2 := F2.keep P.op P.no
  have q3 := F2.keep P.rg P.nr
  have X := RRes.begin P H2 hm2 F2
  have s1 : ∀ cs, rowOf (h2.set r ⟨0, cs⟩) r 0 = some cs := fun cs => rowOf_set_eq hl2
  have s2 : ∀ (Y : List Row) x, rowOf (Y.set r x) rr 0 = rowOf Y rr 0 := fun Y x => rowOf_set_ne P.ne
  have s3 : ∀ (Y : List Row) x, rowOf (Y.set rr x) r 0 = rowOf Y r 0 := fun Y x => rowOf_set_ne (Ne.symm P.ne)
  have s4 : ∀ x cs, rowOf ((h2.set rr x).set r ⟨0, cs⟩) r 0 = some cs := fun x cs => rowOf_set_eq (by rw [List.length_set]; exact hl2)
  have s5 : ∀ x cs, rowOf ((h2.set r x).set rr ⟨0, cs⟩) rr 0 = some cs := fun x cs => rowOf_set_eq (by rw [List.length_set]; exact hl3)
  have o0 := fun k => on_ok k h2 r rr f 3 w n got tasks frame (by omega) q2
  unfold opR at q0 q2 o0
  unfold RG.cells at q1 q3
  try simp only [Int.cast_ofNat_Int] at o0
  refine ⟨h2.set r ⟨0, opR rr f 6 w (-1) got tasks frame⟩, row2, ?_, X.putO _⟩
  try unfold opR
  rw [evX_fun (m := c30) rfl _ _ _ _ P.mem.ne0 rfl]
  simp -implicitDefEqProofs only [c30, q0, q1, q2, q3, s1, s2, s3, s4, s5, e1, o0, hx, Int.add_zero, List.set_set, push_cast, Nat.reduceAdd, Nat.reduceMul, Nat.reduceSub, Nat.reduceLT, Nat.reduceLeDiff, Nat.reduceEqDiff, Nat.reducePow, Int.reduceToNat, Int.reduceLT, Int.reduceLE, Int.reduceNeg, Int.reduceEq, Int.reducePow, reduceIte, reduceCtorEq, Int.reduceMul, Int.reduceAdd, Int.reduceSub, Int.reduceMod, Int.reduceDiv, Int.reduceTDiv, Int.reduceTMod, iter_s]
theorem claim4 (k : Nat) (hd : (R.dealt : Int) ≤ 1000000) (P : RPre h M row r rr tt R (opR rr f 4 w n got tasks frame)) :
    ∃ h' row', evF cm (k + 115) 30 [.p r 0 0, .p (row .mem) 0 0, .i tt] h 0 = some (.i 0, h') ∧ RRes h M row r rr h' (M.access tt R.c true) row' ({ R with dealt := R.dealt + 1 }) (opR rr f 5 w n got tasks frame) := by
  have hl := rowOf_lt P.op
  have hlr := rowOf_lt P.rg
  have := P.na
  have := P.np
  have := P.nl
  have := P.k0
  obtain ⟨B1, B2, B3⟩ := P.big
  have q0 := P.op
  have q1 := P.rg
  obtain ⟨h2, row2, e1, H2, hm2, F2⟩ := write_ok (k + 3) h M row P.mem tt (R.c) P.tt (by omega) P.ops P.cl
  have hl2 : r < h2.length := Nat.lt_of_lt_of_le hl F2.le
  have hl3 : rr < h2.length := Nat.lt_of_lt_of_le hlr F2.le
  have q2 := F2.keep P.op P.no
  have q3 := F2.keep P.rg P.nr
  have X := RRes.begin P H2 hm2 F2
  have s1 : ∀ cs, rowOf (h2.set r ⟨0, cs⟩) r 0 = some cs := fun cs => rowOf_set_eq hl2
  have s2 : ∀ (Y : List Row) x, rowOf (Y.set r x) rr 0 = rowOf Y rr 0 := fun Y x => rowOf_set_ne P.ne
  have s3 : ∀ (Y : List Row) x, rowOf (Y.set rr x) r 0 = rowOf Y r 0 := fun Y x => rowOf_set_ne (Ne.symm P.ne)
  have s4 : ∀ x cs, rowOf ((h2.set rr x).set r ⟨0, cs⟩) r 0 = some cs := fun x cs => rowOf_set_eq (by rw [List.length_set]; exact hl2)
  have s5 : ∀ x cs, rowOf ((h2.set r x).set rr ⟨0, cs⟩) rr 0 = some cs := fun x cs => rowOf_set_eq (by rw [List.length_set]; exact hl3)
  have o0 := fun k => on_ok k (h2.set rr ⟨0, ({ R with dealt := R.dealt + 1 } : RG).cells⟩) r rr f 4 w n got tasks frame (by omega) (by rw [s3]; exact q2)
  have w0 : IntKind.i64.wrap ((R.dealt : Int) + 1) = ((R.dealt + 1 : Nat) : Int) := by rw [w64 _ (by omega) (by omega)] <;> omega
  unfold opR at q0 q2 o0
  unfold RG.cells at q1 q3
  try simp only [Int.cast_ofNat_Int] at o0
  refine ⟨(h2.set rr ⟨0, ({ R with dealt := R.dealt + 1 } : RG).cells⟩).set r ⟨0, opR rr f (4 + 1) w n got tasks frame⟩, row2, ?_, (X.putR _).putO _⟩
  try unfold opR
  unfold RG.cells
  unfold RG.cells at o0
  dsimp only at o0
  try simp only [Int.cast_ofNat_Int] at o0
  generalize ((R.dealt + 1 : Nat) : Int) = hd1 at *
  rw [evX_fun (m := c30) rfl _ _ _ _ P.mem.ne0 rfl]
  simp -implicitDefEqProofs only [c30, q0, q1, q2, q3, s1, s2, s3, s4, s5, e1, o0, w0, Int.add_zero, List.set_set, push_cast, Nat.reduceAdd, Nat.reduceMul, Nat.reduceSub, Nat.reduceLT, Nat.reduceLeDiff, Nat.reduceEqDiff, Nat.reducePow, Int.reduceToNat, Int.reduceLT, Int.reduceLE, Int.reduceNeg, Int.reduceEq, Int.reducePow, reduceIte, reduceCtorEq, Int.reduceMul, Int.reduceAdd, Int.reduceSub, Int.reduceMod, Int.reduceDiv, Int.reduceTDiv, Int.reduceTMod, iter_s]
theorem claim5 (k : Nat) (hn : small n) (P : RPre h M row r rr tt R (opR rr f 5 w n got tasks frame)) :
    ∃ h' row', evF cm (k + 115) 30 [.p r 0 0, .p (row .mem) 0 0, .i tt] h 0 = some (.i 0, h') ∧ RRes h M row r rr h' (M.access tt (R.c + 1 + sl R.k n) false) row' (R) (opR rr f 6 w n got tasks frame) := by
  have hl := rowOf_lt P.op
  have hlr := rowOf_lt P.rg
  have := P.na
  have := P.np
  have := P.nl
  have := P.k0
  obtain ⟨B1, B2, B3⟩ := P.big
  have q0 := P.op
  have q1 := P.rg
  have hs := sl_lt P.k0 n
  have es := fun k lim => slot_ok k lim h rr R n P.rg hn P.k0 (by omega)
  obtain ⟨h2, row2, e1, H2, hm2, F2⟩ := read_ok (k + 3) h M row P.mem tt (R.c + 1 + sl R.k n) P.tt (by omega) P.ops P.cl
  have hl2 : r < h2.length := Nat.lt_of_lt_of_le hl F2.le
  have hl3 : rr < h2.length := Nat.lt_of_lt_of_le hlr F2.le
  have q2 := F2.keep P.op P.no
  have q3 := F2.keep P.rg P.nr
  have X := RRes.begin P H2 hm2 F2
  have s1 : ∀ cs, rowOf (h2.set r ⟨0, cs⟩) r 0 = some cs := fun cs => rowOf_set_eq hl2
  have s2 : ∀ (Y : List Row) x, rowOf (Y.set r x) rr 0 = rowOf Y rr 0 := fun Y x => rowOf_set_ne P.ne
  have s3 : ∀ (Y : List Row) x, rowOf (Y.set rr x) r 0 = rowOf Y r 0 := fun Y x => rowOf_set_ne (Ne.symm P.ne)
  have s4 : ∀ x cs, rowOf ((h2.set rr x).set r ⟨0, cs⟩) r 0 = some cs := fun x cs => rowOf_set_eq (by rw [List.length_set]; exact hl2)
  have s5 : ∀ x cs, rowOf ((h2.set r x).set rr ⟨0, cs⟩) rr 0 = some cs := fun x cs => rowOf_set_eq (by rw [List.length_set]; exact hl3)
  have o0 := fun k => on_ok k h2 r rr f 5 w n got tasks frame (by omega) q2
  have w0 : IntKind.i64.wrap ((R.c : Int) + 1) = ((R.c + 1 : Nat) : Int) := by rw [w64 _ (by omega) (by omega)] <;> omega
  have w1 : IntKind.i64.wrap (((R.c + 1 : Nat) : Int) + ((sl R.k n : Nat) : Int)) = ((R.c + 1 + sl R.k n : Nat) : Int) := by rw [w64 _ (by omega) (by omega)] <;> omega
  unfold opR at q0 q2 o0
  unfold RG.cells at q1 q3
  try simp only [Int.cast_ofNat_Int] at o0
  refine ⟨h2.set r ⟨0, opR rr f (5 + 1) w n got tasks frame⟩, row2, ?_, X.putO _⟩
  try unfold opR
  generalize ((sl R.k n : Nat) : Int) = q at *
  generalize ((R.c + 1 + sl R.k n : Nat) : Int) = a2 at *
  generalize ((R.c + 1 : Nat) : Int) = a1 at *
  rw [evX_fun (m := c30) rfl _ _ _ _ P.mem.ne0 rfl]
  simp -implicitDefEqProofs only [c30, q0, q1, q2, q3, s1, s2, s3, s4, s5, e1, es, call_Q, quietR_mk, flat, flatL, o0, w0, w1, Int.add_zero, List.set_set, push_cast, Nat.reduceAdd, Nat.reduceMul, Nat.reduceSub, Nat.reduceLT, Nat.reduceLeDiff, Nat.reduceEqDiff, Nat.reducePow, Int.reduceToNat, Int.reduceLT, Int.reduceLE, Int.reduceNeg, Int.reduceEq, Int.reducePow, reduceIte, reduceCtorEq, Int.reduceMul, Int.reduceAdd, Int.reduceSub, Int.reduceMod, Int.reduceDiv, Int.reduceTDiv, Int.reduceTMod, iter_s]
theorem claim6a (k : Nat) (hun : M.lo R.l = tt) (hx : n = -1) (P : RPre h M row r rr tt R (opR rr f 6 w n got tasks frame)) :
    ∃ h' row', evF cm (k + 115) 30 [.p r 0 0, .p (row .mem) 0 0, .i tt] h 0 = some (.i 0, h') ∧ RRes h M row r rr h' (M.unlock tt R.l) row' (R) (opR rr f 6 2 n got tasks frame) := by
  have hl := rowOf_lt P.op
  have hlr := rowOf_lt P.rg
  have := P.na
  have := P.np
  have := P.nl
  have := P.k0
  obtain ⟨B1, B2, B3⟩ := P.big
  have q0 := P.op
  have q1 := P.rg
  obtain ⟨h2, row2, e1, H2, hm2, F2⟩ := unlock_ok (k + 4) h M row P.mem tt (R.l) P.tt (by omega) hun P.ops
  have hl2 : r < h2.length := Nat.lt_of_lt_of_le hl F2.le
  have hl3 : rr < h2.length := Nat.lt_of_lt_of_le hlr F2.le
  have q2 := F2.keep P.op P.no
  have q3 := F2.keep P.rg P.nr
  have X := RRes.begin P H2 hm2 F2
  have s1 : ∀ cs, rowOf (h2.set r ⟨0, cs⟩) r 0 = some cs := fun cs => rowOf_set_eq hl2
  have s2 : ∀ (Y : List Row) x, rowOf (Y.set r x) rr 0 = rowOf Y rr 0 := fun Y x => rowOf_set_ne P.ne
  have s3 : ∀ (Y : List Row) x, rowOf (Y.set rr x) r 0 = rowOf Y r 0 := fun Y x => rowOf_set_ne (Ne.symm P.ne)
  have s4 : ∀ x cs, rowOf ((h2.set rr x).set r ⟨0, cs⟩) r 0 = some cs := fun x cs => rowOf_set_eq (by rw [List.length_set]; exact hl2)
  have s5 : ∀ x cs, rowOf ((h2.set r x).set rr ⟨0, cs⟩) rr 0 = some cs := fun x cs => rowOf_set_eq (by rw [List.length_set]; exact hl3)
  have o0 := fun k => over_ok k h2 r rr f 6 w 2 n got tasks frame q2
  unfold opR at q0 q2 o0
  unfold RG.cells at q1 q3
  try simp only [Int.cast_ofNat_Int] at o0
  refine ⟨h2.set r ⟨0, opR rr f 6 2 n got tasks frame⟩, row2, ?_, X.putO _⟩
  try unfold opR
  rw [evX_fun (m := c30) rfl _ _ _ _ P.mem.ne0 rfl]
  simp -implicitDefEqProofs only [c30, q0, q1, q2, q3, s1, s2, s3, s4, s5, e1, o0, hx, Int.add_zero, List.set_set, push_cast, Nat.reduceAdd, Nat.reduceMul, Nat.reduceSub, Nat.reduceLT, Nat.reduceLeDiff, Nat.reduceEqDiff, Nat.reducePow, Int.reduceToNat, Int.reduceLT, Int.reduceLE, Int.reduceNeg, Int.reduceEq, Int.reducePow, reduceIte, reduceCtorEq, Int.reduceMul, Int.reduceAdd, Int.reduceSub, Int.reduceMod, Int.reduceDiv, Int.reduceTDiv, Int.reduceTMod, iter_s]
theorem claim6b (k : Nat) (hun : M.lo R.l = tt) (hx : ¬ n = -1) (P : RPre h M row r rr tt R (opR rr f 6 w n got tasks frame)) :
    ∃ h' row', evF cm (k + 115) 30 [.p r 0 0, .p (row .mem) 0 0, .i tt] h 0 = some (.i 0, h') ∧ RRes h M row r rr h' (M.unlock tt R.l) row' (R) (opR rr f 6 1 n got tasks n) := by
  have hl := rowOf_lt P.op
  have hlr := rowOf_lt P.rg
  have := P.na
  have := P.np
  have := P.nl
  have := P.k0
  obtain ⟨B1, B2, B3⟩ := P.big
  have q0 := P.op
  have q1 := P.rg
  obtain ⟨h2, row2, e1, H2, hm2, F2⟩ := unlock_ok (k + 4) h M row P.mem tt (R.l) P.tt (by omega) hun P.ops
  have hl2 : r < h2.length := Nat.lt_of_lt_of_le hl F2.le
  have hl3 : rr < h2.length := Nat.lt_of_lt_of_le hlr F2.le
  have q2 := F2.keep P.op P.no
  have q3 := F2.keep P.rg P.nr
  have X := RRes.begin P H2 hm2 F2
  have s1 : ∀ cs, rowOf (h2.set r ⟨0, cs⟩) r 0 = some cs := fun cs => rowOf_set_eq hl2
  have s2 : ∀ (Y : List Row) x, rowOf (Y.set r x) rr 0 = rowOf Y rr 0 := fun Y x => rowOf_set_ne P.ne
  have s3 : ∀ (Y : List Row) x, rowOf (Y.set rr x) r 0 = rowOf Y r 0 := fun Y x => rowOf_set_ne (Ne.symm P.ne)
  have s4 : ∀ x cs, rowOf ((h2.set rr x).set r ⟨0, cs⟩) r 0 = some cs := fun x cs => rowOf_set_eq (by rw [List.length_set]; exact hl2)
  have s5 : ∀ x cs, rowOf ((h2.set r x).set rr ⟨0, cs⟩) rr 0 = some cs := fun x cs => rowOf_set_eq (by rw [List.length_set]; exact hl3)
  have o0 := fun k => over_ok k (h2.set r ⟨0, opR rr f 6 w n got tasks n⟩) r rr f 6 w 1 n got tasks n (s1 _)
  unfold opR at q0 q2 o0
  unfold RG.cells at q1 q3
  try simp only [Int.cast_ofNat_Int] at o0
  refine ⟨h2.set r ⟨0, opR rr f 6 1 n got tasks n⟩, row2, ?_, X.putO _⟩
  try unfold opR
  rw [evX_fun (m := c30) rfl _ _ _ _ P.mem.ne0 rfl]
  simp -implicitDefEqProofs only [c30, q0, q1, q2, q3, s1, s2, s3, s4, s5, e1, o0, hx, Int.add_zero, List.set_set, push_cast, Nat.reduceAdd, Nat.reduceMul, Nat.reduceSub, Nat.reduceLT, Nat.reduceLeDiff, Nat.reduceEqDiff, Nat.reducePow, Int.reduceToNat, Int.reduceLT, Int.reduceLE, Int.reduceNeg, Int.reduceEq, Int.reducePow, reduceIte, reduceCtorEq, Int.reduceMul, Int.reduceAdd, Int.reduceSub, Int.reduceMod, Int.reduceDiv, Int.reduceTDiv, Int.reduceTMod, iter_s]
theorem finish0a (k : Nat) (hn : small n) (hv : small (M.av (R.a + 3 + sl R.k n))) (hx : ¬ M.av (R.a + 3 + sl R.k n) - 1 = 0) (P : RPre h M row r rr tt R (opR rr f 0 w n got tasks frame)) :
    ∃ h' row', evF cm (k + 115) 31 [.p r 0 0, .p (row .mem) 0 0, .i tt] h 0 = some (.i 0, h') ∧ RRes h M row r rr h' (M.add tt (R.a + 3 + sl R.k n) (M.av (R.a + 3 + sl R.k n) - 1)) row' (R) (opR rr f 0 2 n got tasks frame) := by
  have hl := rowOf_lt P.op
  have hlr := rowOf_lt P.rg
  have := P.na
  have := P.np
  have := P.nl
  have := P.k0
  obtain ⟨B1, B2, B3⟩ := P.big
  have q0 := P.op
  have q1 := P.rg
  have hs := sl_lt P.k0 n
  have es := fun k lim => slot_ok k lim h rr R n P.rg hn P.k0 (by omega)
  obtain ⟨h2, row2, e1, H2, hm2, F2⟩ := add_ok (k + 4) h M row P.mem tt (R.a + 3 + sl R.k n) (-1) (M.av (R.a + 3 + sl R.k n) - 1) (by unfold small at hv; rw [w64 _ (by omega) (by omega)]; omega) P.tt (by omega) P.ops
  have hl2 : r < h2.length := Nat.lt_of_lt_of_le hl F2.le
  have hl3 : rr < h2.length := Nat.lt_of_lt_of_le hlr F2.le
  have q2 := F2.keep P.op P.no
  have q3 := F2.keep P.rg P.nr
  have X := RRes.begin P H2 hm2 F2
  have s1 : ∀ cs, rowOf (h2.set r ⟨0, cs⟩) r 0 = some cs := fun cs => rowOf_set_eq hl2
  have s2 : ∀ (Y : List Row) x, rowOf (Y.set r x) rr 0 = rowOf Y rr 0 := fun Y x => rowOf_set_ne P.ne
  have s3 : ∀ (Y : List Row) x, rowOf (Y.set rr x) r 0 = rowOf Y r 0 := fun Y x => rowOf_set_ne (Ne.symm P.ne)
  have s4 : ∀ x cs, rowOf ((h2.set rr x).set r ⟨0, cs⟩) r 0 = some cs := fun x cs => rowOf_set_eq (by rw [List.length_set]; exact hl2)
  have s5 : ∀ x cs, rowOf ((h2.set r x).set rr ⟨0, cs⟩) rr 0 = some cs := fun x cs => rowOf_set_eq (by rw [List.length_set]; exact hl3)
  have o0 := fun k => over_ok k h2 r rr f 0 w 2 n got tasks frame q2
  have w0 : IntKind.i64.wrap ((R.a : Int) + 3) = ((R.a + 3 : Nat) : Int) := by rw [w64 _ (by omega) (by omega)] <;> omega
  have w1 : IntKind.i64.wrap (((R.a + 3 : Nat) : Int) + ((sl R.k n : Nat) : Int)) = ((R.a + 3 + sl R.k n : Nat) : Int) := by rw [w64 _ (by omega) (by omega)] <;> omega
  unfold opR at q0 q2 o0
  unfold RG.cells at q1 q3
  try simp only [Int.cast_ofNat_Int] at o0
  refine ⟨h2.set r ⟨0, opR rr f 0 2 n got tasks frame⟩, row2, ?_, X.putO _⟩
  try unfold opR
  generalize ((sl R.k n : Nat) : Int) = q at *
  generalize ((R.a + 3 + sl R.k n : Nat) : Int) = a2 at *
  generalize ((R.a + 3 : Nat) : Int) = a1 at *
  rw [evX_fun (m := c31) rfl _ _ _ _ P.mem.ne0 rfl]
  simp -implicitDefEqProofs only [c31, q0, q1, q2, q3, s1, s2, s3, s4, s5, e1, es, call_Q, quietR_mk, flat, flatL, o0, w0, w1, hx, Int.add_zero, List.set_set, push_cast, Nat.reduceAdd, Nat.reduceMul, Nat.reduceSub, Nat.reduceLT, Nat.reduceLeDiff, Nat.reduceEqDiff, Nat.reducePow, Int.reduceToNat, Int.reduceLT, Int.reduceLE, Int.reduceNeg, Int.reduceEq, Int.reducePow, reduceIte, reduceCtorEq, Int.reduceMul, Int.reduceAdd, Int.reduceSub, Int.reduceMod, Int.reduceDiv, Int.reduceTDiv, Int.reduceTMod, iter_s]
theorem finish0b (k : Nat) (hn : small n) (hv : small (M.av (R.a + 3 + sl R.k n))) (hx : M.av (R.a + 3 + sl R.k n) - 1 = 0) (P : RPre h M row r rr tt R (opR rr f 0 w n got tasks frame)) :
    ∃ h' row', evF cm (k + 115) 31 [.p r 0 0, .p (row .mem) 0 0, .i tt] h 0 = some (.i 0, h') ∧ RRes h M row r rr h' (M.add tt (R.a + 3 + sl R.k n) (M.av (R.a + 3 + sl R.k n) - 1)) row' (R) (opR rr f 1 w n got tasks frame) := by
  have hl := rowOf_lt P.op
  have hlr := rowOf_lt P.rg
  have := P.na
  have := P.np
  have := P.nl
  have := P.k0
  obtain ⟨B1, B2, B3⟩ := P.big
  have q0 := P.op
  have q1 := P.rg
  have hs := sl_lt P.k0 n
  have es := fun k lim => slot_ok k lim h rr R n P.rg hn P.k0 (by omega)
  obtain ⟨h2, row2, e1, H2, hm2, F2⟩ := add_ok (k + 4) h M row P.mem tt (R.a + 3 + sl R.k n) (-1) (M.av (R.a + 3 + sl R.k n) - 1) (by unfold small at hv; rw [w64 _ (by omega) (by omega)]; omega) P.tt (by omega) P.ops
  have hl2 : r < h2.length := Nat.lt_of_lt_of_le hl F2.le
  have hl3 : rr < h2.length := Nat.lt_of_lt_of_le hlr F2.le
  have q2 := F2.keep P.op P.no
  have q3 := F2.keep P.rg P.nr
  have X := RRes.begin P H2 hm2 F2
  have s1 : ∀ cs, rowOf (h2.set r ⟨0, cs⟩) r 0 = some cs := fun cs => rowOf_set_eq hl2
  have s2 : ∀ (Y : List Row) x, rowOf (Y.set r x) rr 0 = rowOf Y rr 0 := fun Y x => rowOf_set_ne P.ne
  have s3 : ∀ (Y : List Row) x, rowOf (Y.set rr x) r 0 = rowOf Y r 0 := fun Y x => rowOf_set_ne (Ne.symm P.ne)
  have s4 : ∀ x cs, rowOf ((h2.set rr x).set r ⟨0, cs⟩) r 0 = some cs := fun x cs => rowOf_set_eq (by rw [List.length_set]; exact hl2)
  have s5 : ∀ x cs, rowOf ((h2.set r x).set rr ⟨0, cs⟩) rr 0 = some cs := fun x cs => rowOf_set_eq (by rw [List.length_set]; exact hl3)
  have o0 := fun k => on_ok k h2 r rr f 0 w n got tasks frame (by omega) q2
  have w0 : IntKind.i64.wrap ((R.a : Int) + 3) = ((R.a + 3 : Nat) : Int) := by rw [w64 _ (by omega) (by omega)] <;> omega
  have w1 : IntKind.i64.wrap (((R.a + 3 : Nat) : Int) + ((sl R.k n : Nat) : Int)) = ((R.a + 3 + sl R.k n : Nat) : Int) := by rw [w64 _ (by omega) (by omega)] <;> omega
  unfold opR at q0 q2 o0
  unfold RG.cells at q1 q3
  try simp only [Int.cast_ofNat_Int] at o0
  refine ⟨h2.set r ⟨0, opR rr f (0 + 1) w n got tasks frame⟩, row2, ?_, X.putO _⟩
  try unfold opR
  generalize ((sl R.k n : Nat) : Int) = q at *
  generalize ((R.a + 3 + sl R.k n : Nat) : Int) = a2 at *
  generalize ((R.a + 3 : Nat) : Int) = a1 at *
  rw [evX_fun (m := c31) rfl _ _ _ _ P.mem.ne0 rfl]
  simp -implicitDefEqProofs only [c31, q0, q1, q2, q3, s1, s2, s3, s4, s5, e1, es, call_Q, quietR_mk, flat, flatL, o0, w0, w1, hx, Int.add_zero, List.set_set, push_cast, Nat.reduceAdd, Nat.reduceMul, Nat.reduceSub, Nat.reduceLT, Nat.reduceLeDiff, Nat.reduceEqDiff, Nat.reducePow, Int.reduceToNat, Int.reduceLT, Int.reduceLE, Int.reduceNeg, Int.reduceEq, Int.reducePow, reduceIte, reduceCtorEq, Int.reduceMul, Int.reduceAdd, Int.reduceSub, Int.reduceMod, Int.reduceDiv, Int.reduceTDiv, Int.reduceTMod, iter_s]
theorem finish1 (k : Nat) (hn : small n) (P : RPre h M row r rr tt R (opR rr f 1 w n got tasks frame)) :
    ∃ h' row', evF cm (k + 115) 31 [.p r 0 0, .p (row .mem) 0 0, .i tt] h 0 = some (.i 0, h') ∧ RRes h M row r rr h' (M.store tt (R.a + 1) (n + 1)) row' (R) (opR rr f 1 1 n got tasks frame) := by
  have hl := rowOf_lt P.op
  have hlr := rowOf_lt P.rg
  have := P.na
  have := P.np
  have := P.nl
  have := P.k0
  obtain ⟨B1, B2, B3⟩ := P.big
  have q0 := P.op
  have q1 := P.rg
  obtain ⟨h2, row2, e1, H2, hm2, F2⟩ := store_ok (k + 4) h M row P.mem tt (R.a + 1) (n + 1) P.tt (by omega) P.ops
  have hl2 : r < h2.length := Nat.lt_of_lt_of_le hl F2.le
  have hl3 : rr < h2.length := Nat.lt_of_lt_of_le hlr F2.le
  have q2 := F2.keep P.op P.no
  have q3 := F2.keep P.rg P.nr
  have X := RRes.begin P H2 hm2 F2
  have s1 : ∀ cs, rowOf (h2.set r ⟨0, cs⟩) r 0 = some cs := fun cs => rowOf_set_eq hl2
  have s2 : ∀ (Y : List Row) x, rowOf (Y.set r x) rr 0 = rowOf Y rr 0 := fun Y x => rowOf_set_ne P.ne
  have s3 : ∀ (Y : List Row) x, rowOf (Y.set rr x) r 0 = rowOf Y r 0 := fun Y x => rowOf_set_ne (Ne.symm P.ne)
  have s4 : ∀ x cs, rowOf ((h2.set rr x).set r ⟨0, cs⟩) r 0 = some cs := fun x cs => rowOf_set_eq (by rw [List.length_set]; exact hl2)
  have s5 : ∀ x cs, rowOf ((h2.set r x).set rr ⟨0, cs⟩) rr 0 = some cs := fun x cs => rowOf_set_eq (by rw [List.length_set]; exact hl3)
  have o0 := fun k => over_ok k h2 r rr f 1 w 1 n got tasks frame q2
  have w0 : IntKind.i64.wrap ((R.a : Int) + 1) = ((R.a + 1 : Nat) : Int) := by rw [w64 _ (by omega) (by omega)] <;> omega
  have wn : IntKind.i64.wrap (n + 1) = n + 1 := by unfold small at hn; exact w64 _ (by omega) (by omega)
  unfold opR at q0 q2 o0
  unfold RG.cells at q1 q3
  try simp only [Int.cast_ofNat_Int] at o0
  refine ⟨h2.set r ⟨0, opR rr f 1 1 n got tasks frame⟩, row2, ?_, X.putO _⟩
  try unfold opR
  generalize ((R.a + 1 : Nat) : Int) = a1 at *
  rw [evX_fun (m := c31) rfl _ _ _ _ P.mem.ne0 rfl]
  simp -implicitDefEqProofs only [c31, q0, q1, q2, q3, s1, s2, s3, s4, s5, e1, o0, w0, wn, Int.add_zero, List.set_set, push_cast, Nat.reduceAdd, Nat.reduceMul, Nat.reduceSub, Nat.reduceLT, Nat.reduceLeDiff, Nat.reduceEqDiff, Nat.reducePow, Int.reduceToNat, Int.reduceLT, Int.reduceLE, Int.reduceNeg, Int.reduceEq, Int.reducePow, reduceIte, reduceCtorEq, Int.reduceMul, Int.reduceAdd, Int.reduceSub, Int.reduceMod, Int.reduceDiv, Int.reduceTDiv, Int.reduceTMod, iter_s]
end
end Go.Proofs.Ytcmlnjkbdlakfaa
