/- A ring's operations that are done one behind the other (RingAlone), as the evaluator answers: a round. -/
import Derived.Test.YtcmlnjkbdlakfaaRL
set_option linter.unusedSimpArgs false
set_option linter.unusedVariables false
set_option linter.unusedSectionVars false
set_option maxRecDepth 100000
set_option maxHeartbeats 16000000
namespace Go.Proofs.Ytcmlnjkbdlakfaa
open Go
/-- What lies in a heap ahead of an operation that is done alone. -/
structure At0 (h : List Row) (M : AM) (row : Tg → Nat) (r rr : Nat) (s : RS) : Prop where
  mem : MemAt h M row
  op : rowOf h r 0 = some (s.o.cells rr)
  rg : rowOf h rr 0 = some s.R.cells
  no : ¬ own M row r
  nr : ¬ own M row rr
  ne : r ≠ rr
/-- What a ring of k slots has of a memory. -/
structure Sz (M : AM) (R : RG) (k : Nat) : Prop where
  n : M.n = 3
  na : M.na = k + 4
  np : M.np = k + 2
  nl : M.nl = 2
  k : R.k = k
  a : R.a = 1
  c : R.c = 1
  l : R.l = 1
theorem At0.pre {h : List Row} {M : AM} {row : Tg → Nat} {r rr tt k : Nat} {R : RG} {o : RO} (A : At0 h M row r rr ⟨M, R, o⟩) (Z : Sz M R k) (hk : 0 < k ∧ k ≤ 8) (ht : tt < 3) (hops : M.ops < 1000000) (hcl : M.cl.length < 1000000) : RPre h M row r rr tt R (o.cells rr) :=
  ⟨A.mem, A.op, A.rg, A.no, A.nr, A.ne, by rw [Z.n]; exact ht, by rw [Z.na, Z.k, Z.a]; omega, by rw [Z.np, Z.k, Z.c]; omega, by rw [Z.nl, Z.l]; omega, by rw [Z.k]; exact hk.1, by rw [Z.na, Z.np, Z.nl]; omega, by omega, by omega⟩
/-- What an operation leaves that was done alone. -/
structure Aft (h h' : List Row) (M M' : AM) (row row' : Tg → Nat) (r rr k m : Nat) (R' : RG) (o' : RO) : Prop where
  mem : MemAt h' M' row'
  rm : row' .mem = row .mem
  op : rowOf h' r 0 = some (o'.cells rr)
  rg : rowOf h' rr 0 = some R'.cells
  nr : ¬ own M' row' rr
  sz : Sz M' R' k
  ops : M'.ops = M.ops + m
  cl : M'.cl.length ≤ M.cl.length + 3 * m
  keep : ∀ j v cs, ¬ own M row j → j ≠ r → j ≠ rr → rowOf h j v = some cs → rowOf h' j v = some cs ∧ ¬ own M' row' j
theorem aft_of {h h' : List Row} {M M' : AM} {row row' : Tg → Nat} {r rr tt k m : Nat} {R R' : RG} {o o' : RO} (Z : Sz M R k) (E : itR tt ⟨M, R, o⟩ m = ⟨M', R', o'⟩) (X : RRes h M row r rr h' (itR tt ⟨M, R, o⟩ m).M row' (itR tt ⟨M, R, o⟩ m).R ((itR tt ⟨M, R, o⟩ m).o.cells rr)) : Aft h h' M M' row row' r rr k m R' o' := by
  obtain ⟨v1, v2, v3, v4, v5, v6, v7, v8, v9, v10, v11⟩ := itR_keep tt ⟨M, R, o⟩ m
  rw [E] at X v1 v2 v3 v4 v5 v6 v7 v8 v9 v10
  refine ⟨X.mem, X.rm, X.op, X.rg, X.nr, ⟨v1.trans Z.n, v2.trans Z.na, v3.trans Z.np, v4.trans Z.nl, v7.trans Z.k, v8.trans Z.a, v9.trans Z.c, v10.trans Z.l⟩, v5, by have := v6; dsimp only at this; rw [Z.n] at this; exact this, fun j v cs ho h1 h2 hr => ?_⟩
  have hw : ¬ W2 (own M row) r rr j := fun hh => hh.elim ho fun hh => hh.elim h1 h2
  exact ⟨X.fr.keep hr hw, fun hh => X.fr.apart (rowOf_lt hr) hw (.inl hh)⟩
section
variable (K : Nat) {h : List Row} {M M' : AM} {row : Tg → Nat} {r rr k : Nat} {R R' : RG} {o o' : RO} {m : Nat} (tt : Nat)
theorem aloneR (A : At0 h M row r rr ⟨M, R, o⟩) (Z : Sz M R k) (hk : 0 < k ∧ k ≤ 8) (ht : tt < 3) (hops : M.ops < 1000000) (hcl : M.cl.length < 1000000) (hp : okPc o) (hm : m ≤ 12) (hm0 : 0 < m) (E : RunsR tt ⟨M, R, o⟩ m ⟨M', R', o'⟩) (hw : o'.w ≠ 0) :
    ∃ h' row', evF cm (K + 140) 15 [.p r 0 0, .p (row .mem) 0 0, .i tt] h 0 = some (.i m, h') ∧ Aft h h' M M' row row' r rr k m R' o' := by
  obtain ⟨F, E2⟩ := E.all
  obtain ⟨h', row', e, X⟩ := run_ok K (s0 := ⟨M, R, o⟩) (A.pre Z hk ht hops hcl) hp m hm hm0 (by dsimp only; omega) (by dsimp only; rw [Z.n]; omega) F (by rw [E2]; exact hw)
  exact ⟨h', row', e, aft_of Z E2 X⟩
theorem aloneF (A : At0 h M row r rr ⟨M, R, o⟩) (Z : Sz M R k) (hk : 0 < k ∧ k ≤ 8) (ht : tt < 3) (hops : M.ops < 1000000) (hcl : M.cl.length < 1000000) (hp : okPc o) (E : RunsR tt ⟨M, R, o⟩ 12 ⟨M', R', o'⟩) (hw : o'.w = 0) :
    ∃ h' row', evF cm (K + 140) 15 [.p r 0 0, .p (row .mem) 0 0, .i tt] h 0 = some (.i (-2), h') ∧ Aft h h' M M' row row' r rr k 12 R' o' := by
  obtain ⟨F, E2⟩ := E.all
  obtain ⟨h', row', e, X⟩ := run_full K (s0 := ⟨M, R, o⟩) (A.pre Z hk ht hops hcl) hp (by dsimp only; omega) (by dsimp only; rw [Z.n]; omega) F (by rw [E2]; exact hw)
  exact ⟨h', row', e, aft_of Z E2 X⟩
end
/-- Ahead of a round. -/
structure InvR (h : List Row) (M : AM) (row : Tg → Nat) (k rr xr : Nat) (R : RG) (T : Int) (L : Nat → Int) (stp : Bool) (i : Nat) : Prop where
  mem : MemAt h M row
  sz : Sz M R k
  ri : RInv M R T L stp
  ops : M.ops ≤ 12 * (i : Int)
  cl : M.cl.length ≤ 36 * i
  hd : R.head ≤ i
  tb : -200 ≤ T ∧ T ≤ 200
  lb : ∀ j, -(i : Int) ≤ L j ∧ L j ≤ 100
  rg : rowOf h rr 0 = some R.cells
  nr : ¬ own M row rr
  x : rowOf h xr 0 = some (xC k R.head R.dealt T L stp)
  nx : ¬ own M row xr
  ne : xr ≠ rr
section
variable {h : List Row} {M : AM} {row : Tg → Nat} {k rr xr : Nat} {R : RG} {T : Int} {L : Nat → Int} {stp : Bool} {i : Nat}
/-- An operation that was made, and the document's answer. -/
theorem InvR.at0 (I : InvR h M row k rr xr R T L stp i) (o : RO) (x : List LV) : At0 ((h ++ [(⟨0, o.cells rr⟩ : Row)] ++ [(⟨0, x⟩ : Row)]).set xr ⟨0, x⟩) M row h.length rr ⟨M, R, o⟩ := by
  have h1 := rowOf_lt I.rg
  have h2 := rowOf_lt I.x
  refine ⟨MemAt.keep ((I.mem.app [(⟨0, o.cells rr⟩ : Row)]).app [(⟨0, x⟩ : Row)]) fun j hj => ?_, ?_, ?_, fun hh => Nat.lt_irrefl _ (I.mem.own hh), I.nr, by omega⟩
  · rw [List.getElem?_set_ne]; rintro rfl; exact I.nx hj
  · rw [rowOf_set_ne (by omega), rowOf_app_lt (by simp)]; exact rowOf_app_eq
  · rw [rowOf_set_ne I.ne, List.append_assoc, rowOf_app_lt h1]; exact I.rg
theorem InvR.at1 (I : InvR h M row k rr xr R T L stp i) (o : RO) : At0 (h ++ [(⟨0, o.cells rr⟩ : Row)]) M row h.length rr ⟨M, R, o⟩ := by
  have h1 := rowOf_lt I.rg
  have h2 := rowOf_lt I.x
  refine ⟨I.mem.app _, rowOf_app_eq, by rw [rowOf_app_lt h1]; exact I.rg, fun hh => Nat.lt_irrefl _ (I.mem.own hh), I.nr, by omega⟩
theorem InvR.at2 (I : InvR h M row k rr xr R T L stp i) (o : RO) (x : List LV) : At0 (h.set xr ⟨0, x⟩ ++ [(⟨0, o.cells rr⟩ : Row)]) M row (h.set xr ⟨0, x⟩).length rr ⟨M, R, o⟩ := by
  have h1 := rowOf_lt I.rg
  have h2 := rowOf_lt I.x
  have l1 : (h.set xr ⟨0, x⟩).length = h.length := List.length_set
  refine ⟨MemAt.app (MemAt.keep I.mem fun j hj => ?_) _, rowOf_app_eq, ?_, fun hh => by have := I.mem.own hh; omega, I.nr, by omega⟩
  · rw [List.getElem?_set_ne]; rintro rfl; exact I.nx hj
  · rw [rowOf_app_lt (by omega), rowOf_set_ne I.ne]; exact I.rg
end
end Go.Proofs.Ytcmlnjkbdlakfaa
