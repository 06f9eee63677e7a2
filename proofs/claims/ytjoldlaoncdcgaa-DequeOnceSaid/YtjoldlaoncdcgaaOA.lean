/- A deque's operation, step by step, as the evaluator answers: the small parts. -/
import Derived.Test.YtjoldlaoncdcgaaMP
set_option linter.unusedSimpArgs false
set_option linter.unusedVariables false
set_option maxRecDepth 100000
set_option maxHeartbeats 16000000
namespace Go.Proofs.Ytjoldlaoncdcgaa
open Go
/-- An operation's cells. -/
def opC (a c : Int) (f : LV) (w : Int) (tk : Bool) (b t v : Int) : List LV := [.i a, .i c, f, .i w, .b tk, .i b, .i t, .i v]
/-- What is owned, and one row more. -/
def W (o : Nat → Prop) (r : Nat) (k : Nat) : Prop := o k ∨ k = r
theorem Frm.wide {o o' : Nat → Prop} {h h' : List Row} (F : Frm o o' h h') (r : Nat) : Frm (W o r) (W o' r) h h' :=
  ⟨F.le, fun k hk ho => F.same k hk fun hh => ho (.inl hh), fun k hk => by
    rcases hk with hk | hk
    · rcases F.sub k hk with h1 | h1
      · exact .inl (.inl h1)
      · exact .inr h1
    · exact .inl (.inr hk)⟩
theorem Frm.keep {o o' : Nat → Prop} {h h' : List Row} (F : Frm o o' h h') {r : Nat} {v : Nat} {cs : List LV} (hr : rowOf h r v = some cs) (ho : ¬ o r) : rowOf h' r v = some cs := by
  unfold rowOf at hr ⊢
  have hl : r < h.length := rowOf_lt hr
  rw [F.same r hl ho]; exact hr
/-- The last turn of an operation's own row. -/
theorem fin_op {h h2 : List Row} {M M' : AM} {row row' : Tg → Nat} {r : Nat} {cs : List LV} (H2 : MemAt h2 M' row') (F : Frm (own M row) (own M' row') h h2) (hr : r < h.length) (ho : ¬ own M row r) :
    MemAt (h2.set r ⟨0, cs⟩) M' row' ∧ Frm (W (own M row) r) (W (own M' row') r) h (h2.set r ⟨0, cs⟩) ∧ rowOf (h2.set r ⟨0, cs⟩) r 0 = some cs := by
  have hno : ¬ own M' row' r := F.apart hr ho
  refine ⟨H2.keep fun k hk => ?_, (F.wide r).trans (Frm.put (.inr rfl) (fun _ h => h) _), rowOf_set_eq (Nat.lt_of_lt_of_le hr F.le)⟩
  rw [List.getElem?_set_ne]
  rintro rfl; exact hno hk
theorem Frm.box {M M' : AM} {row row' : Tg → Nat} {h h2 : List Row} (H : MemAt h M row) (t : List Row) (F : Frm (own M row) (own M' row') (h ++ t) h2) : Frm (own M row) (own M' row') h h2 :=
  (Frm.push (own' := own M row) t (fun _ h => .inl h)).trans F
/-- One of the deque's atoms is loaded. -/
theorem opload_ok (k : Nat) (h : List Row) (M : AM) (row : Tg → Nat) (H : MemAt h M row) (r j : Nat) (cs : List LV) (hr : rowOf h r 0 = some cs) (hj : j + 1 ≤ cs.length) (ho : ¬ own M row r) (t a : Nat) (ht : t < M.n) (ha : a < M.na) (hops : M.ops < 1000000000) (o : LV) :
    ∃ h', evF cm (k + 112) 24 [o, .agg [.p (row .mem) 0 0, .i t], .i a, .p r 0 j] h 0 = some (.i 0, h'.set r ⟨0, cs.set j (.i (M.av a))⟩) ∧ MemAt h' (M.load t a) row ∧ Frm (own M row) (own (M.load t a) row) h h' := by
  obtain ⟨h2, e1, H2, F2⟩ := load_ok (k + 1) (h ++ [⟨0, [.p (row .mem) 0 0, .i t]⟩]) M row (H.app _) t a ht ha hops
  have F := Frm.box H _ F2
  refine ⟨h2, ?_, H2, F⟩
  have r1 : ∀ x, rowOf (h ++ [x]) h.length 0 = rowOf [x] 0 0 := fun x => by obtain ⟨v, cs⟩ := x; unfold rowOf; rw [List.getElem?_append_right (Nat.le_refl _)]; simp
  have r2 := F.keep hr ho
  have s1 : ∀ x, List.take j cs ++ [x] ++ List.drop (j + 1) cs = cs.set j x := fun x => by rw [List.set_eq_take_append_cons_drop, if_pos (by omega)]; simp
  rw [evX_fun (m := c24) rfl _ _ _ _ H.ne0 rfl]
  simp -implicitDefEqProofs only [c24, e1, r1, r2, s1, hj, outG, push_cast, Nat.reduceAdd, Nat.reduceMul, Nat.reduceSub, Nat.reduceLT, Nat.reduceLeDiff, Nat.reduceEqDiff, Nat.reducePow, Int.reduceToNat, Int.reduceLT, Int.reduceLE, Int.reduceNeg, Int.reduceEq, Int.reducePow, reduceIte, reduceCtorEq, Int.reduceMul, Int.reduceAdd, Int.reduceSub, Int.reduceMod, Int.reduceDiv, Int.reduceTDiv, Int.reduceTMod, iter_s]
/-- The operation goes on, or is over. -/
theorem opthen_ok (k : Nat) (h : List Row) (r a c : Nat) (f : LV) (g : Nat) (w : Int) (tk : Bool) (b t v : Int) (hr : rowOf h r 0 = some (opC a c f w tk b t v)) :
    evF cm (k + 1) 25 [.p r 0 0, .f g [], .i 0] h 0 = some (.i 0, h.set r ⟨0, opC a c (.f g []) w tk b t v⟩) := by
  have hn : h.isEmpty = false := by have := rowOf_lt hr; cases h with | nil => simp at this | cons _ _ => rfl
  unfold opC at hr ⊢
  rw [evX_fun (m := c25) rfl _ _ _ _ hn rfl]
  simp -implicitDefEqProofs only [c25, hr, push_cast, Nat.reduceAdd, Nat.reduceMul, Nat.reduceSub, Nat.reduceLT, Nat.reduceLeDiff, Nat.reduceEqDiff, Nat.reducePow, Int.reduceToNat, Int.reduceLT, Int.reduceLE, Int.reduceNeg, Int.reduceEq, Int.reducePow, reduceIte, reduceCtorEq, Int.reduceMul, Int.reduceAdd, Int.reduceSub, Int.reduceMod, Int.reduceDiv, Int.reduceTDiv, Int.reduceTMod, iter_s]
theorem opend_ok (k : Nat) (h : List Row) (r a c : Nat) (f : LV) (w x : Int) (tk : Bool) (b t v : Int) (hr : rowOf h r 0 = some (opC a c f w tk b t v)) :
    evF cm (k + 1) 34 [.p r 0 0, .i x, .i 0] h 0 = some (.i 0, h.set r ⟨0, opC a c f x tk b t v⟩) := by
  have hn : h.isEmpty = false := by have := rowOf_lt hr; cases h with | nil => simp at this | cons _ _ => rfl
  unfold opC at hr ⊢
  rw [evX_fun (m := c34) rfl _ _ _ _ hn rfl]
  simp -implicitDefEqProofs only [c34, hr, push_cast, Nat.reduceAdd, Nat.reduceMul, Nat.reduceSub, Nat.reduceLT, Nat.reduceLeDiff, Nat.reduceEqDiff, Nat.reducePow, Int.reduceToNat, Int.reduceLT, Int.reduceLE, Int.reduceNeg, Int.reduceEq, Int.reducePow, reduceIte, reduceCtorEq, Int.reduceMul, Int.reduceAdd, Int.reduceSub, Int.reduceMod, Int.reduceDiv, Int.reduceTDiv, Int.reduceTMod, iter_s]
theorem slot_ok (k lim : Nat) (h : List Row) (r a c n : Nat) (f : LV) (w : Int) (tk : Bool) (b t v : Int) (hr : rowOf h r 0 = some (opC a c f w tk b t v)) (ha : a ≤ 100000) (hc : 0 < c) (hc' : c ≤ 100000) :
    evF cm (k + 1) 45 [.p r 0 0, .i n] h lim = some (.i ((a + 2 + n % c : Nat) : Int), h) := by
  have hn : h.isEmpty = false := by have := rowOf_lt hr; cases h with | nil => simp at this | cons _ _ => rfl
  have hl : n % c < c := Nat.mod_lt _ hc
  have g1 : (0 : Int) < (c : Int) := by omega
  have g2 : (0 : Int) ≤ (n : Int) := by omega
  have g3 : ¬ (c : Int) = 0 := by omega
  have e0 : (n : Int).tmod (c : Int) = ((n % c : Nat) : Int) := by rw [tmod_pos g2]; omega
  have w1 : IntKind.i64.wrap ((a : Int) + 2) = ((a + 2 : Nat) : Int) := by rw [w64 _ (by omega) (by omega)]; omega
  have w2 : IntKind.i64.wrap (((n % c : Nat) : Int)) = ((n % c : Nat) : Int) := by rw [w64 _ (by omega) (by omega)]
  have w3 : IntKind.i64.wrap (((a + 2 : Nat) : Int) + ((n % c : Nat) : Int)) = ((a + 2 + n % c : Nat) : Int) := by rw [w64 _ (by omega) (by omega)]; omega
  unfold opC at hr
  generalize ((n % c : Nat) : Int) = q at *
  generalize ((a + 2 : Nat) : Int) = a2 at *
  generalize ((a + 2 + n % c : Nat) : Int) = a3 at *
  rw [evH_fun (m := c45) rfl _ _ _ _ rfl]
  simp -implicitDefEqProofs only [c45, hr, e0, w1, w2, w3, g1, g2, g3, push_cast, Nat.reduceAdd, Nat.reduceMul, Nat.reduceSub, Nat.reduceLT, Nat.reduceLeDiff, Nat.reduceEqDiff, Nat.reducePow, Int.reduceToNat, Int.reduceLT, Int.reduceLE, Int.reduceNeg, Int.reduceEq, Int.reducePow, reduceIte, reduceCtorEq, Int.reduceMul, Int.reduceAdd, Int.reduceSub, Int.reduceMod, Int.reduceDiv, Int.reduceTDiv, Int.reduceTMod, iter_s]
end Go.Proofs.Ytjoldlaoncdcgaa
