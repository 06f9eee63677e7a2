/- Operations that are done one behind the other do what they do to a list (DequeAlone), as the evaluator answers. -/
import Derived.Test.YtjoldlaoncdcgaaOD
import Derived.Test.YtjoldlaoncdcgaaDA
import Derived.Test.YtjoldlaoncdcgaaA31
set_option linter.unusedSimpArgs false
set_option linter.unusedVariables false
set_option maxRecDepth 100000
set_option maxHeartbeats 16000000
namespace Go.Proofs.Ytjoldlaoncdcgaa
open Go
theorem evX_P {k : Nat} {g : FuncId} {ar : List LV} (hs : isS cm g = true) : evP (evF cm k) g ar = none := by unfold evP; rw [evX_none hs]
theorem evX_N {k lim : Nat} {g : FuncId} {ar : List LV} (hs : isS cm g = true) : evF cm k g ar [] lim = none := evX_none hs _ _ _
theorem and3 (x : Int) : 0 ≤ bits .and .i64 x 3 ∧ bits .and .i64 x 3 ≤ 3 := by
  have hx : (BitVec.ofInt 64 x &&& BitVec.ofInt 64 3).toNat ≤ 3 := by
    rw [BitVec.toNat_and]; exact Nat.and_le_right
  have : bits .and .i64 x 3 = ((BitVec.ofInt 64 x &&& BitVec.ofInt 64 3).toNat : Int) := by
    show IntKind.i64.wrap ((BitVec.ofInt 64 x &&& BitVec.ofInt 64 3).toNat : Int) = _
    exact w64 _ (by omega) (by omega)
  omega
theorem pop_mk (k : Nat) (h : List Row) (hn : h.isEmpty = false) (a c : Int) : evF cm (k + 1) 9 [.agg [.i a, .i c]] h 0 = some (.p (h.length + 1) 0 0, h ++ [⟨0, [.i a, .i c]⟩, ⟨0, opC a c (.f 20 []) 0 true 0 0 0⟩]) := by
  have r1 := fun x => boxRow h x
  rw [evX_fun (m := c9) rfl _ _ _ _ hn rfl]
  simp -implicitDefEqProofs only [c9, r1, opC, push_cast, Nat.reduceAdd, Nat.reduceMul, Nat.reduceSub, Nat.reduceLT, Nat.reduceLeDiff, Nat.reduceEqDiff, Nat.reducePow, Int.reduceToNat, Int.reduceLT, Int.reduceLE, Int.reduceNeg, Int.reduceEq, Int.reducePow, reduceIte, reduceCtorEq, Int.reduceMul, Int.reduceAdd, Int.reduceSub, Int.reduceMod, Int.reduceDiv, Int.reduceTDiv, Int.reduceTMod, iter_s]
  rw [List.length_append, List.append_assoc]; rfl
theorem steal_mk (k : Nat) (h : List Row) (hn : h.isEmpty = false) (a c : Int) : evF cm (k + 1) 11 [.agg [.i a, .i c]] h 0 = some (.p (h.length + 1) 0 0, h ++ [⟨0, [.i a, .i c]⟩, ⟨0, opC a c (.f 21 []) 0 true 0 0 0⟩]) := by
  have r1 := fun x => boxRow h x
  rw [evX_fun (m := c11) rfl _ _ _ _ hn rfl]
  simp -implicitDefEqProofs only [c11, r1, opC, push_cast, Nat.reduceAdd, Nat.reduceMul, Nat.reduceSub, Nat.reduceLT, Nat.reduceLeDiff, Nat.reduceEqDiff, Nat.reducePow, Int.reduceToNat, Int.reduceLT, Int.reduceLE, Int.reduceNeg, Int.reduceEq, Int.reducePow, reduceIte, reduceCtorEq, Int.reduceMul, Int.reduceAdd, Int.reduceSub, Int.reduceMod, Int.reduceDiv, Int.reduceTDiv, Int.reduceTMod, iter_s]
  rw [List.length_append, List.append_assoc]; rfl
theorem push_mk (k : Nat) (h : List Row) (hn : h.isEmpty = false) (a c v : Int) : evF cm (k + 1) 12 [.agg [.i a, .i c], .i v] h 0 = some (.p (h.length + 1) 0 0, h ++ [⟨0, [.i a, .i c]⟩, ⟨0, opC a c (.f 22 []) 0 false 0 0 v⟩]) := by
  have r1 := fun x => boxRow h x
  rw [evX_fun (m := c12) rfl _ _ _ _ hn rfl]
  simp -implicitDefEqProofs only [c12, r1, opC, push_cast, Nat.reduceAdd, Nat.reduceMul, Nat.reduceSub, Nat.reduceLT, Nat.reduceLeDiff, Nat.reduceEqDiff, Nat.reducePow, Int.reduceToNat, Int.reduceLT, Int.reduceLE, Int.reduceNeg, Int.reduceEq, Int.reducePow, reduceIte, reduceCtorEq, Int.reduceMul, Int.reduceAdd, Int.reduceSub, Int.reduceMod, Int.reduceDiv, Int.reduceTDiv, Int.reduceTMod, iter_s]
  rw [List.length_append, List.append_assoc]; rfl
/-- An operation that was made and is done alone. -/
theorem alone (K : Nat) {h : List Row} {M M' : AM} {row : Tg → Nat} {o o' : AO} {m r : Nat} (tt : Nat) (H : MemAt h M row) (ht : tt < M.n) (na : o.a + o.c + 2 ≤ M.na) (c0 : 0 < o.c) (big : M.na ≤ 65536) (hops : M.ops + 10 < 1000000000) (hy : rowOf h r 0 = some o.cells) (no : ¬ own M row r) (hm : m ≤ 10) (hm0 : 0 < m) (R : Runs tt M o m M' o') (hw : o'.w ≠ 0) :
    ∃ h' row', evF cm (K + 130) 13 [.p r 0 0, .p (row .mem) 0 0, .i tt] h 0 = some (.i m, h') ∧ MemAt h' M' row' ∧ row' .mem = row .mem ∧ (∀ k v cs, ¬ own M row k → k ≠ r → rowOf h k v = some cs → rowOf h' k v = some cs ∧ ¬ own M' row' k) ∧ rowOf h' r 0 = some o'.cells ∧ M'.n = M.n ∧ M'.na = M.na ∧ M'.ops = M.ops + m := by
  obtain ⟨A, E⟩ := R.all
  obtain ⟨h', row', e, R2⟩ := run_ok K _ M row r tt o ⟨H, hy, no, ht, na, c0, big, by omega⟩ m hm hm0 hops A (by rw [E]; exact hw)
  have V := itS_inv tt (M, o) m
  rw [E] at R2 V
  refine ⟨h', row', e, R2.mem, R2.rm, fun k v cs ho hk hr => ?_, R2.op, V.1, V.2.1, V.2.2.1⟩
  have hw : ¬ W (own M row) r k := fun hh => hh.elim ho hk
  exact ⟨R2.fr.keep hr hw, fun hh => R2.fr.apart (rowOf_lt hr) hw (.inl hh)⟩
def fgA : List Nat := [54, 53, 4, 156, 155, 154, 153, 152, 151, 150, 149, 148, 147, 146, 145, 144, 143, 142, 141, 140, 139, 138, 137, 136, 135, 134, 133, 132, 131, 130, 129, 128, 127, 126, 125, 124, 123, 122, 121, 120, 119, 118, 117, 116, 115, 114, 113, 112, 111, 110, 109, 106, 108, 107, 105, 104, 103, 102, 101, 100, 77, 76, 75, 67, 74, 73, 72, 71, 70, 69, 68, 66, 65, 64, 63, 62, 61, 99, 98, 97, 93, 96, 95, 94, 92, 91, 89, 90, 88, 87, 86, 82, 85, 84, 83, 81, 80, 78, 79, 60, 59, 58, 57, 56, 55, 52, 51, 50, 49]
theorem tl158 {T : List LV} (h : T.length = 158) : T = [getT T 0, getT T 1, getT T 2, getT T 3, getT T 4, getT T 5, getT T 6, getT T 7, getT T 8, getT T 9, getT T 10, getT T 11, getT T 12, getT T 13, getT T 14, getT T 15, getT T 16, getT T 17, getT T 18, getT T 19, getT T 20, getT T 21, getT T 22, getT T 23, getT T 24, getT T 25, getT T 26, getT T 27, getT T 28, getT T 29, getT T 30, getT T 31, getT T 32, getT T 33, getT T 34, getT T 35, getT T 36, getT T 37, getT T 38, getT T 39, getT T 40, getT T 41, getT T 42, getT T 43, getT T 44, getT T 45, getT T 46, getT T 47, getT T 48, getT T 49, getT T 50, getT T 51, getT T 52, getT T 53, getT T 54, getT T 55, getT T 56, getT T 57, getT T 58, getT T 59, getT T 60, getT T 61, getT T 62, getT T 63, getT T 64, getT T 65, getT T 66, getT T 67, getT T 68, getT T 69, getT T 70, getT T 71, getT T 72, getT T 73, getT T 74, getT T 75, getT T 76, getT T 77, getT T 78, getT T 79, getT T 80, getT T 81, getT T 82, getT T 83, getT T 84, getT T 85, getT T 86, getT T 87, getT T 88, getT T 89, getT T 90, getT T 91, getT T 92, getT T 93, getT T 94, getT T 95, getT T 96, getT T 97, getT T 98, getT T 99, getT T 100, getT T 101, getT T 102, getT T 103, getT T 104, getT T 105, getT T 106, getT T 107, getT T 108, getT T 109, getT T 110, getT T 111, getT T 112, getT T 113, getT T 114, getT T 115, getT T 116, getT T 117, getT T 118, getT T 119, getT T 120, getT T 121, getT T 122, getT T 123, getT T 124, getT T 125, getT T 126, getT T 127, getT T 128, getT T 129, getT T 130, getT T 131, getT T 132, getT T 133, getT T 134, getT T 135, getT T 136, getT T 137, getT T 138, getT T 139, getT T 140, getT T 141, getT T 142, getT T 143, getT T 144, getT T 145, getT T 146, getT T 147, getT T 148, getT T 149, getT T 150, getT T 151, getT T 152, getT T 153, getT T 154, getT T 155, getT T 156, getT T 157] := tlT h
/-- Ahead of a round. -/
structure InvA (h : List Row) (M : AM) (row : Tg → Nat) (c r8 : Nat) (T0 : Nat) (X : List Int) (x : LV) (i : Nat) : Prop where
  mem : MemAt h M row
  n : M.n = 3
  na : M.na = c + 4
  ops : M.ops ≤ 6 * (i : Int)
  d : DInv M 1 c T0 X
  x : SlX (fun k => ¬ own M row k) h X x
  box : rowOf h r8 0 = some [.i 1, .i c]
  nb : ¬ own M row r8
  le : T0 + X.length ≤ i
def SA (S : LV) (c : Nat) (i : Nat) (s : St) : Prop := ∃ T h M row r8 T0 X x, s = (T, h) ∧ InvA h M row c r8 T0 X x i ∧ T.length = 158 ∧ getT T 1 = S ∧ getT T 5 = .i c ∧ getT T 6 = .p (row .mem) 0 0 ∧ getT T 8 = .p r8 0 0 ∧ getT T 9 = x ∧ getT T 10 = .i i
theorem alone_round (K : Nat) (hK : 400 ≤ K) (l : List Int) (S : LV) (hS : SlI l S) (hm : l.length ≤ 60) (c : Nat) (hc : 0 < c ∧ c ≤ 9) (i : Nat) (s : St) (hi : i < l.length) (hs : SA S c i s) :
    ∃ s', evCode (evF cm K) K 0 c3b0 (cleanN fgA s) = some (.nrm, s') ∧ SA S c (i + 1) s' := by
  obtain ⟨k, rfl⟩ : ∃ k, K = k + 400 := ⟨K - 400, by omega⟩
  obtain ⟨T, h, M, row, r8, T0, X, x, rfl, I, hT, t1, t5, t6, t8, t9, t10⟩ := hs
  rw [tl158 hT]
  have g1 : (i : Int) < (l.length : Int) := by omega
  have w1 : IntKind.i64.wrap ((i : Int) + 1) = (i : Int) + 1 := w64 _ (by omega) (by omega)
  have hx := hS.ix i (by omega) g1
  rw [Int.toNat_natCast] at hx
  have hr := rd_ints l i hi
  have hr' := rd_ints' l i hi
  generalize l.getD i 0 = v at *
  obtain ⟨a1, a2⟩ := and3 v
  obtain ⟨kd, hkd⟩ : ∃ kd, bits .and .i64 v 3 = kd := ⟨_, rfl⟩
  rw [hkd] at a1 a2
  have hn := I.mem.ne0
  have hb := I.box
  have hop := I.ops
  have hle := I.le
  have na1 : (1 : Nat) + c + 2 ≤ M.na := by rw [I.na]; omega
  have nb2 : M.na ≤ 65536 := by rw [I.na]; omega
  have fin : ∀ T' h' M' row' T1 X' x', T'.length = 158 → getT T' 1 = S → getT T' 5 = .i c → getT T' 6 = .p (row .mem) 0 0 → getT T' 8 = .p r8 0 0 → getT T' 9 = x' → getT T' 10 = .i ((i : Int) + 1) → row' .mem = row .mem → InvA h' M' row' c r8 T1 X' x' (i + 1) → SA S c (i + 1) (T', h') :=
    fun T' h' M' row' T1 X' x' q0 q1 q5 q6 q8 q9 q10 qr J => ⟨T', h', M', row', r8, T1, X', x', rfl, J, q0, q1, q5, by rw [qr]; exact q6, q8, q9, q10⟩
  have hr8 := rowOf_lt hb
  -- an operation is made, x is told on, and it is done
  have key : ∀ (o o' : AO) (M' : AM) (m tt T1 : Nat) (X' : List Int) (y : LV) (t : List Row), MemAt (h ++ [⟨0, [.i 1, .i c]⟩, ⟨0, o.cells⟩] ++ t) M row → o.a = 1 → o.c = c → tt < 3 → m ≤ 6 → 0 < m → Runs tt M o m M' o' → o'.w ≠ 0 → DInv M' 1 c T1 X' → T1 + X'.length ≤ i + 1 →
      SlX (fun k => ¬ own M row k ∧ k ≠ h.length + 1) (h ++ [⟨0, [.i 1, .i c]⟩, ⟨0, o.cells⟩] ++ t) X' y →
      ∃ h' row', evF cm (k + 400) 13 [.p (h.length + 1) 0 0, .p (row .mem) 0 0, .i tt] (h ++ [⟨0, [.i 1, .i c]⟩, ⟨0, o.cells⟩] ++ t) 0 = some (.i m, h') ∧ rowOf h' (h.length + 1) 0 = some o'.cells ∧ row' .mem = row .mem ∧ InvA h' M' row' c r8 T1 X' y (i + 1) := by
    intro o o' M' m tt T1 X' y t Hm oa oc ht hm hm0 R hw D1 hT1 hsl
    have q1 : rowOf (h ++ [⟨0, [.i 1, .i c]⟩, ⟨0, o.cells⟩] ++ t) (h.length + 1) 0 = some o.cells := by
      refine rowOf_at ?_
      rw [List.append_assoc, List.getElem?_append_right (by omega), Nat.add_sub_cancel_left]; rfl
    have q2 : rowOf (h ++ [⟨0, [.i 1, .i c]⟩, ⟨0, o.cells⟩] ++ t) r8 0 = some [.i 1, .i c] := by
      rw [List.append_assoc, rowOf_app_lt hr8]; exact hb
    obtain ⟨h', row', e, H', hrm, kp, ho', hn', hna', hops'⟩ := alone (k + 270) tt Hm (by rw [I.n]; exact ht) (by rw [oa, oc]; exact na1) (by rw [oc]; exact hc.1) nb2 (by omega) q1 (fun hh => by have := I.mem.own hh; omega) (by omega) hm0 R hw
    obtain ⟨b1, b2⟩ := kp r8 0 _ I.nb (by omega) q2
    exact ⟨h', row', e, ho', hrm, ⟨H', by rw [hn']; exact I.n, by rw [hna']; exact I.na, by rw [hops']; push_cast; omega, D1, hsl.keep fun k v cs hp hr => kp k v cs hp.1 hp.2 hr, b1, b2, hT1⟩⟩
  have hsl : ∀ t, SlX (fun k => ¬ own M row k ∧ k ≠ h.length + 1) (h ++ t) X x := fun t => I.x.keep fun k v cs hp hr => by
    have := rowOf_lt hr
    exact ⟨by rw [rowOf_app_lt this]; exact hr, hp, by omega⟩
  have c1 : ((1 : Nat) : Int) = 1 := rfl
  have c0 : ((0 : Nat) : Int) = 0 := rfl
  have c2 : ((2 : Nat) : Int) = 2 := rfl
  have c4 : ((4 : Nat) : Int) = 4 := rfl
  have c6 : ((6 : Nat) : Int) = 6 := rfl
  have hn1 : ∀ t, (h ++ t).isEmpty = false := fun t => (I.mem.app t).ne0
  by_cases k0 : kd = 0
  · subst k0
    have e9 := fun k => pop_mk k h hn 1 c
    rcases List.eq_nil_or_concat X with hX | ⟨X0, z, hX⟩
    · subst hX
      have hx2 := hsl [⟨0, [.i 1, .i c]⟩, ⟨0, (AO.pop 1 c).cells⟩]
      obtain ⟨M', o', R, D1, w1', w2⟩ := pop_none 0 I.d (by simp at hle; omega)
      have ed := do_none (k + 399) _ (hn1 [⟨0, [.i 1, .i c]⟩, ⟨0, (AO.pop 1 c).cells⟩]) x (hsl _) c 1 0 (by omega)
      obtain ⟨h', row', er, ho, hrm, J⟩ := key (AO.pop 1 c) o' M' 4 0 (T0) [] x [] (by rw [List.append_nil]; exact I.mem.app _) rfl rfl (by omega) (by omega) (by omega) R (by omega) D1 (by first | omega | (simp at hle ⊢; omega)) (by rw [List.append_nil]; exact hx2)
      have eg := fun k => got_ok k o' ho
      have ew := fun k => why_ok k o' ho
      rw [w1'] at ew
      simp only [w1', w2] at eg
      rw [List.append_nil] at er
      simp only [AO.cells, AO.pop, AO.steal, AO.push, pcN, c1, c0, c2, c4, c6, Nat.add_assoc, Nat.reduceAdd] at ed er
      simp -implicitDefEqProofs (maxSteps := 3000000) only [c3b0, fgA, t1, t5, t6, t8, t9, t10, hS.len, hx, hr, hr', g1, w1, hb, evX_P, evX_N, hkd, e9, ed, er, eg, ew, eq_self, push_cast, Nat.reduceAdd, Nat.reduceMul, Nat.reduceSub, Nat.reduceLT, Nat.reduceLeDiff, Nat.reduceEqDiff, Nat.reducePow, Int.reduceToNat, Int.reduceLT, Int.reduceLE, Int.reduceNeg, Int.reduceEq, Int.reducePow, reduceIte, reduceCtorEq, Int.reduceMul, Int.reduceAdd, Int.reduceSub, Int.reduceMod, Int.reduceDiv, Int.reduceTDiv, Int.reduceTMod, iter_s]
      refine ⟨_, rfl, ?_⟩; exact fin _ _ _ _ _ _ x rfl rfl rfl rfl rfl rfl rfl hrm J
    · rw [List.concat_eq_append] at hX
      subst hX
      by_cases hX0 : X0 = []
      · subst hX0
        obtain ⟨x2, ed, hx2⟩ := do_pop (k + 399) _ (hn1 [⟨0, [.i 1, .i c]⟩, ⟨0, (AO.pop 1 c).cells⟩]) [] z x (hsl _) c 0 (by simp)
        obtain ⟨M', o', R, D1, w1', w2, w3⟩ := pop_one 0 I.d (by simp at hle; omega)
        obtain ⟨h', row', er, ho, hrm, J⟩ := key (AO.pop 1 c) o' M' 6 0 (T0 + 1) [] x2 [] (by rw [List.append_nil]; exact I.mem.app _) rfl rfl (by omega) (by omega) (by omega) R (by omega) D1 (by first | omega | (simp at hle ⊢; omega)) (by rw [List.append_nil]; exact hx2)
        have eg := fun k => got_ok k o' ho
        have ew := fun k => why_ok k o' ho
        rw [w1'] at ew
        simp only [w1', w2, w3] at eg
        rw [List.append_nil] at er
        simp only [AO.cells, AO.pop, AO.steal, AO.push, pcN, c1, c0, c2, c4, c6, Nat.add_assoc, Nat.reduceAdd] at ed er
        simp -implicitDefEqProofs (maxSteps := 3000000) only [c3b0, fgA, t1, t5, t6, t8, t9, t10, hS.len, hx, hr, hr', g1, w1, hb, evX_P, evX_N, hkd, e9, ed, er, eg, ew, eq_self, push_cast, Nat.reduceAdd, Nat.reduceMul, Nat.reduceSub, Nat.reduceLT, Nat.reduceLeDiff, Nat.reduceEqDiff, Nat.reducePow, Int.reduceToNat, Int.reduceLT, Int.reduceLE, Int.reduceNeg, Int.reduceEq, Int.reducePow, reduceIte, reduceCtorEq, Int.reduceMul, Int.reduceAdd, Int.reduceSub, Int.reduceMod, Int.reduceDiv, Int.reduceTDiv, Int.reduceTMod, iter_s]
        refine ⟨_, rfl, ?_⟩; exact fin _ _ _ _ _ _ x2 rfl rfl rfl rfl rfl rfl rfl hrm J
      · have hXl : 0 < X0.length := by cases X0 with
          | nil => exact absurd rfl hX0
          | cons _ _ => simp
        obtain ⟨x2, ed, hx2⟩ := do_pop (k + 399) _ (hn1 [⟨0, [.i 1, .i c]⟩, ⟨0, (AO.pop 1 c).cells⟩]) X0 z x (hsl _) c 0 (by simp at hle; omega)
        obtain ⟨M', o', R, D1, w1', w2, w3⟩ := pop_more 0 I.d (by simp at hle; omega) hXl
        obtain ⟨h', row', er, ho, hrm, J⟩ := key (AO.pop 1 c) o' M' 4 0 (T0) X0 x2 [] (by rw [List.append_nil]; exact I.mem.app _) rfl rfl (by omega) (by omega) (by omega) R (by omega) D1 (by first | omega | (simp at hle ⊢; omega)) (by rw [List.append_nil]; exact hx2)
        have eg := fun k => got_ok k o' ho
        have ew := fun k => why_ok k o' ho
        rw [w1'] at ew
        simp only [w1', w2, w3] at eg
        rw [List.append_nil] at er
        simp only [AO.cells, AO.pop, AO.steal, AO.push, pcN, c1, c0, c2, c4, c6, Nat.add_assoc, Nat.reduceAdd] at ed er
        simp -implicitDefEqProofs (maxSteps := 3000000) only [c3b0, fgA, t1, t5, t6, t8, t9, t10, hS.len, hx, hr, hr', g1, w1, hb, evX_P, evX_N, hkd, e9, ed, er, eg, ew, eq_self, push_cast, Nat.reduceAdd, Nat.reduceMul, Nat.reduceSub, Nat.reduceLT, Nat.reduceLeDiff, Nat.reduceEqDiff, Nat.reducePow, Int.reduceToNat, Int.reduceLT, Int.reduceLE, Int.reduceNeg, Int.reduceEq, Int.reducePow, reduceIte, reduceCtorEq, Int.reduceMul, Int.reduceAdd, Int.reduceSub, Int.reduceMod, Int.reduceDiv, Int.reduceTDiv, Int.reduceTMod, iter_s]
        refine ⟨_, rfl, ?_⟩; exact fin _ _ _ _ _ _ x2 rfl rfl rfl rfl rfl rfl rfl hrm J
  · by_cases k1 : kd = 1
    · subst k1
      have e11 := fun k => steal_mk k h hn 1 c
      cases X with
      | nil =>
        have hx2 := hsl [⟨0, [.i 1, .i c]⟩, ⟨0, (AO.steal 1 c).cells⟩]
        obtain ⟨M', o', R, D1, w1', w2⟩ := steal_none 2 I.d (by simp at hle; omega)
        have ed := do_none (k + 399) _ (hn1 [⟨0, [.i 1, .i c]⟩, ⟨0, (AO.steal 1 c).cells⟩]) x (hsl _) c 2 0 (by omega)
        obtain ⟨h', row', er, ho, hrm, J⟩ := key (AO.steal 1 c) o' M' 2 2 (T0) [] x [] (by rw [List.append_nil]; exact I.mem.app _) rfl rfl (by omega) (by omega) (by omega) R (by omega) D1 (by first | omega | (simp at hle ⊢; omega)) (by rw [List.append_nil]; exact hx2)
        have eg := fun k => got_ok k o' ho
        have ew := fun k => why_ok k o' ho
        rw [w1'] at ew
        simp only [w1', w2] at eg
        rw [List.append_nil] at er
        simp only [AO.cells, AO.pop, AO.steal, AO.push, pcN, c1, c0, c2, c4, c6, Nat.add_assoc, Nat.reduceAdd] at ed er
        simp -implicitDefEqProofs (maxSteps := 3000000) only [c3b0, fgA, t1, t5, t6, t8, t9, t10, hS.len, hx, hr, hr', g1, w1, hb, evX_P, evX_N, hkd, e11, ed, er, eg, ew, eq_self, push_cast, Nat.reduceAdd, Nat.reduceMul, Nat.reduceSub, Nat.reduceLT, Nat.reduceLeDiff, Nat.reduceEqDiff, Nat.reducePow, Int.reduceToNat, Int.reduceLT, Int.reduceLE, Int.reduceNeg, Int.reduceEq, Int.reducePow, reduceIte, reduceCtorEq, Int.reduceMul, Int.reduceAdd, Int.reduceSub, Int.reduceMod, Int.reduceDiv, Int.reduceTDiv, Int.reduceTMod, iter_s]
        refine ⟨_, rfl, ?_⟩; exact fin _ _ _ _ _ _ x rfl rfl rfl rfl rfl rfl rfl hrm J
      | cons z X0 =>
        obtain ⟨x2, ed, hx2⟩ := do_steal (k + 399) _ (hn1 [⟨0, [.i 1, .i c]⟩, ⟨0, (AO.steal 1 c).cells⟩]) X0 z x (hsl _) c 0 (by simp at hle; omega)
        obtain ⟨M', o', R, D1, w1', w2, w3⟩ := steal_fine 2 I.d (by simp at hle; omega)
        obtain ⟨h', row', er, ho, hrm, J⟩ := key (AO.steal 1 c) o' M' 4 2 (T0 + 1) X0 x2 [] (by rw [List.append_nil]; exact I.mem.app _) rfl rfl (by omega) (by omega) (by omega) R (by omega) D1 (by first | omega | (simp at hle ⊢; omega)) (by rw [List.append_nil]; exact hx2)
        have eg := fun k => got_ok k o' ho
        have ew := fun k => why_ok k o' ho
        rw [w1'] at ew
        simp only [w1', w2, w3] at eg
        rw [List.append_nil] at er
        simp only [AO.cells, AO.pop, AO.steal, AO.push, pcN, c1, c0, c2, c4, c6, Nat.add_assoc, Nat.reduceAdd] at ed er
        simp -implicitDefEqProofs (maxSteps := 3000000) only [c3b0, fgA, t1, t5, t6, t8, t9, t10, hS.len, hx, hr, hr', g1, w1, hb, evX_P, evX_N, hkd, e11, ed, er, eg, ew, eq_self, push_cast, Nat.reduceAdd, Nat.reduceMul, Nat.reduceSub, Nat.reduceLT, Nat.reduceLeDiff, Nat.reduceEqDiff, Nat.reducePow, Int.reduceToNat, Int.reduceLT, Int.reduceLE, Int.reduceNeg, Int.reduceEq, Int.reducePow, reduceIte, reduceCtorEq, Int.reduceMul, Int.reduceAdd, Int.reduceSub, Int.reduceMod, Int.reduceDiv, Int.reduceTDiv, Int.reduceTMod, iter_s]
        refine ⟨_, rfl, ?_⟩; exact fin _ _ _ _ _ _ x2 rfl rfl rfl rfl rfl rfl rfl hrm J
    · have k2 : ¬ kd < 2 := by omega
      have e12 := fun k => push_mk k h hn 1 c v
      by_cases hf : c ≤ X.length
      · have hx2 := hsl [⟨0, [.i 1, .i c]⟩, ⟨0, (AO.push 1 c v).cells⟩]
        obtain ⟨M', o', R, D1, w1', w2⟩ := push_full 0 I.d (by omega) v hf
        have ed := do_full (k + 399) _ (hn1 [⟨0, [.i 1, .i c]⟩, ⟨0, (AO.push 1 c v).cells⟩]) X x (hsl _) c v hf hc.1
        obtain ⟨h', row', er, ho, hrm, J⟩ := key (AO.push 1 c v) o' M' 2 0 (T0) X x [] (by rw [List.append_nil]; exact I.mem.app _) rfl rfl (by omega) (by omega) (by omega) R (by omega) D1 (by first | omega | (simp at hle ⊢; omega)) (by rw [List.append_nil]; exact hx2)
        have eg := fun k => got_ok k o' ho
        have ew := fun k => why_ok k o' ho
        rw [w1'] at ew
        simp only [w2] at eg
        rw [List.append_nil] at er
        simp only [AO.cells, AO.pop, AO.steal, AO.push, pcN, c1, c0, c2, c4, c6, Nat.add_assoc, Nat.reduceAdd] at ed er
        simp -implicitDefEqProofs (maxSteps := 3000000) only [c3b0, fgA, t1, t5, t6, t8, t9, t10, hS.len, hx, hr, hr', g1, w1, hb, evX_P, evX_N, hkd, k0, k1, k2, e12, ed, er, eg, ew, eq_self, push_cast, Nat.reduceAdd, Nat.reduceMul, Nat.reduceSub, Nat.reduceLT, Nat.reduceLeDiff, Nat.reduceEqDiff, Nat.reducePow, Int.reduceToNat, Int.reduceLT, Int.reduceLE, Int.reduceNeg, Int.reduceEq, Int.reducePow, reduceIte, reduceCtorEq, Int.reduceMul, Int.reduceAdd, Int.reduceSub, Int.reduceMod, Int.reduceDiv, Int.reduceTDiv, Int.reduceTMod, iter_s]
        refine ⟨_, rfl, ?_⟩; exact fin _ _ _ _ _ _ x rfl rfl rfl rfl rfl rfl rfl hrm J
      · obtain ⟨M', o', R, D1, w1', w2⟩ := push_fine 0 I.d (by omega) v (by omega)
        obtain ⟨x2, t, ed, hx2⟩ := do_push (P := fun k => ¬ own M row k ∧ k ≠ h.length + 1) (k + 399) _ (fun k hk => ⟨fun hh => by have := I.mem.own hh; simp at hk; omega, by simp at hk; omega⟩) (hn1 [⟨0, [.i 1, .i c]⟩, ⟨0, (AO.push 1 c v).cells⟩]) X x (hsl _) c v (by omega) (by omega)
        obtain ⟨h', row', er, ho, hrm, J⟩ := key (AO.push 1 c v) o' M' 4 0 T0 (X ++ [v]) x2 t (by rw [List.append_assoc]; exact I.mem.app _) rfl rfl (by omega) (by omega) (by omega) R (by omega) D1 (by first | omega | (simp at hle ⊢; omega)) hx2
        have eg := fun k => got_ok k o' ho
        have ew := fun k => why_ok k o' ho
        rw [w1'] at ew
        simp only [w1', w2] at eg
        simp only [AO.cells, AO.pop, AO.steal, AO.push, pcN, c1, c0, c2, c4, c6, Nat.add_assoc, Nat.reduceAdd] at ed er
        simp -implicitDefEqProofs (maxSteps := 3000000) only [c3b0, fgA, t1, t5, t6, t8, t9, t10, hS.len, hx, hr, hr', g1, w1, hb, evX_P, evX_N, hkd, k0, k1, k2, e12, ed, er, eg, ew, eq_self, push_cast, Nat.reduceAdd, Nat.reduceMul, Nat.reduceSub, Nat.reduceLT, Nat.reduceLeDiff, Nat.reduceEqDiff, Nat.reducePow, Int.reduceToNat, Int.reduceLT, Int.reduceLE, Int.reduceNeg, Int.reduceEq, Int.reducePow, reduceIte, reduceCtorEq, Int.reduceMul, Int.reduceAdd, Int.reduceSub, Int.reduceMod, Int.reduceDiv, Int.reduceTDiv, Int.reduceTMod, iter_s]
        refine ⟨_, rfl, ?_⟩; exact fin _ _ _ _ _ _ x2 rfl rfl rfl rfl rfl rfl rfl hrm J
theorem alone_last (K : Nat) (l : List Int) (S : LV) (hS : SlI l S) (c : Nat) (s : St) (hs : SA S c l.length s) :
    ∃ s', evCode (evF cm K) K 0 c3b0 (cleanN fgA s) = some (.exit 0, s') ∧ ∃ T h, s' = (T, h) ∧ T.length = 158 ∧ h.isEmpty = false := by
  obtain ⟨T, h, M, row, r8, T0, X, x, rfl, I, hT, t1, t5, t6, t8, t9, t10⟩ := hs
  rw [tl158 hT]
  have g1 : ¬ (l.length : Int) < (l.length : Int) := by omega
  simp -implicitDefEqProofs (maxSteps := 3000000) only [c3b0, fgA, t1, t5, t6, t8, t9, t10, hS.len, g1, push_cast, Nat.reduceAdd, Nat.reduceMul, Nat.reduceSub, Nat.reduceLT, Nat.reduceLeDiff, Nat.reduceEqDiff, Nat.reducePow, Int.reduceToNat, Int.reduceLT, Int.reduceLE, Int.reduceNeg, Int.reduceEq, Int.reducePow, reduceIte, reduceCtorEq, Int.reduceMul, Int.reduceAdd, Int.reduceSub, Int.reduceMod, Int.reduceDiv, Int.reduceTDiv, Int.reduceTMod, iter_s]
  exact ⟨_, rfl, _, h, rfl, rfl, I.mem.ne0⟩
theorem need_ok (k : Nat) (c : Nat) (hc : c ≤ 100) : evP (evF cm (k + 1)) 7 [.i c] = some (.i (c + 2)) := by
  have w1 : IntKind.i64.wrap ((c : Int) + 2) = (c : Int) + 2 := w64 _ (by omega) (by omega)
  rw [evP_fun (m := c7) rfl _ _ rfl]
  simp -implicitDefEqProofs only [c7, w1, push_cast, Nat.reduceAdd, Nat.reduceMul, Nat.reduceSub, Nat.reduceLT, Nat.reduceLeDiff, Nat.reduceEqDiff, Nat.reducePow, Int.reduceToNat, Int.reduceLT, Int.reduceLE, Int.reduceNeg, Int.reduceEq, Int.reducePow, reduceIte, reduceCtorEq, Int.reduceMul, Int.reduceAdd, Int.reduceSub, Int.reduceMod, Int.reduceDiv, Int.reduceTDiv, Int.reduceTMod, iter_s]
theorem DInv.new (n na np nl a c : Nat) (hc : 0 < c) : DInv (AM.new n na np nl) a c 0 [] := ⟨rfl, rfl, Nat.zero_le _, hc, fun i x e => by simp at e⟩
end Go.Proofs.Ytjoldlaoncdcgaa
