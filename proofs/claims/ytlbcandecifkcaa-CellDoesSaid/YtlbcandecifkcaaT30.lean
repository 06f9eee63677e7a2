/- An operation, done to a memory: as the evaluator answers. -/
import Derived.Test.YtlbcandecifkcaaO30
set_option linter.unusedSimpArgs false
set_option linter.unusedVariables false
set_option maxRecDepth 100000
set_option maxHeartbeats 16000000
namespace Go.Proofs.Ytlbcandecifkcaa
open Go
theorem Frm.boxes {o o' : Nat → Prop} {h h1 : List Row} {t : List Row} (F : Frm o o' (h ++ t) h1) {i j : Nat} (hi : h.length ≤ i) (hj : h.length ≤ j) (x y : Row) : Frm o o' h ((h1.set i x).set j y) := by
  refine ⟨by have := F.le; simp at this ⊢; omega, fun k hk ho => ?_, fun k hk => ?_⟩
  · rw [List.getElem?_set_ne (by omega), List.getElem?_set_ne (by omega), F.same k (by simp; omega) ho, List.getElem?_append_left hk]
  · rcases F.sub k hk with h' | h'
    · exact .inl h'
    · right; simp at h'; omega
theorem own_lt {h : List Row} {M : AM} {row : Tg → Nat} (H : MemAt h M row) {k : Nat} (hk : h.length ≤ k) : ¬ own M row k := fun hh => by have := H.own hh; omega
theorem do_mem {h h1 : List Row} {t : List Row} {M M' : AM} {row row' : Tg → Nat} (H : MemAt h M row) (F : Frm (own M row) (own M' row') (h ++ t) h1) (H1 : MemAt h1 M' row') {i j : Nat} (hi : h.length ≤ i) (hi' : i < (h ++ t).length) (hj : h.length ≤ j) (hj' : j < (h ++ t).length) (x y : Row) :
    MemAt ((h1.set i x).set j y) M' row' := by
  have n1 : ¬ own M' row' i := F.apart hi' (own_lt H hi)
  have n2 : ¬ own M' row' j := F.apart hj' (own_lt H hj)
  refine H1.keep fun k hk => ?_
  rw [List.getElem?_set_ne (by rintro rfl; exact n2 hk), List.getElem?_set_ne (by rintro rfl; exact n1 hk)]
theorem box3 (h : List Row) (a b c : List LV) : rowOf (h ++ [⟨0, a⟩, ⟨0, b⟩, ⟨0, c⟩]) h.length 0 = some a ∧ rowOf (h ++ [⟨0, a⟩, ⟨0, b⟩, ⟨0, c⟩]) (h.length + 1) 0 = some b ∧ rowOf (h ++ [⟨0, a⟩, ⟨0, b⟩, ⟨0, c⟩]) (h.length + 2) 0 = some c := by
  refine ⟨rowOf_app_eq, ?_, ?_⟩
  · refine rowOf_at ?_
    rw [List.getElem?_append_right (by omega), show h.length + 1 - h.length = 1 by omega]; rfl
  · refine rowOf_at ?_
    rw [List.getElem?_append_right (by omega), show h.length + 2 - h.length = 2 by omega]; rfl
theorem dop0 (k : Nat) (h : List Row) (M : AM) (row : Tg → Nat) (H : MemAt h M row) (t a : Nat) (o n : Int) (ht : t < M.n) (ha : a < M.na) (hops : M.ops < 1000000000) (hcl : M.cl.length < 900000000) :
    ∃ h' row', evF cm (k + 130) 13 [.p (row .mem) 0 0, .agg [.i 0, .i t, .i a, .i o, .i n]] h 0 = some (.agg [.i (M.av a), .b false, .i 0], h') ∧ MemAt h' (M.load t a) row' ∧ row' .mem = row .mem ∧ Frm (own M row) (own (M.load t a) row') h h' := by
  have Hb := H.app [⟨0, [.i 0, .i t, .i a, .i o, .i n]⟩, ⟨0, [.i 0, .b false, .i 0]⟩, ⟨0, [.i 0, .b false, .i 0]⟩]
  obtain ⟨b0, b1, b2⟩ := box3 h [.i 0, .i t, .i a, .i o, .i n] [.i 0, .b false, .i 0] [.i 0, .b false, .i 0]
  have bl : (h ++ [(⟨0, [.i 0, .i t, .i a, .i o, .i n]⟩ : Row), ⟨0, [.i 0, .b false, .i 0]⟩, ⟨0, [.i 0, .b false, .i 0]⟩]).length = h.length + 3 := by simp
  obtain ⟨h1, e1, H1, F⟩ := load_ok (k + 19) _ M row Hb t a ht ha hops
  have hr : row .mem = row .mem := rfl
  obtain ⟨row', hrow⟩ : ∃ row', row' = row := ⟨_, rfl⟩
  subst hrow
  have c0 := F.ext (own_lt H (Nat.le_refl _)) b0
  have c1 := F.ext (own_lt H (by omega)) b1
  have c2 := F.ext (own_lt H (by omega)) b2
  have c3 : ∀ cs, rowOf (h1.set (h.length + 2) ⟨0, cs⟩) (h.length + 2) 0 = some cs := fun cs => rowOf_set_eq (rowOf_lt c2)
  have c4 : ∀ x, rowOf (h1.set (h.length + 2) x) (h.length + 1) 0 = some [.i 0, .b false, .i 0] := fun x => by rw [rowOf_set_ne (by omega)]; exact c1
  have c5 : ∀ x cs, rowOf ((h1.set (h.length + 2) x).set (h.length + 1) ⟨0, cs⟩) (h.length + 1) 0 = some cs := fun x cs => rowOf_set_eq (by rw [List.length_set]; exact rowOf_lt c1)
  have hl1 : ∀ x : Row, (h ++ [x]).length = h.length + 1 := fun x => by simp
  have hl2 : ∀ x y : Row, (h ++ [x, y]).length = h.length + 2 := fun x y => by simp
  have r0 : ∀ y, rowOf (h ++ [⟨0, [.i 0, .i t, .i a, .i o, .i n]⟩, y]) h.length 0 = some [.i 0, .i t, .i a, .i o, .i n] := fun y => rowOf_app_eq
  rw [evX_fun (m := c13) rfl _ _ _ _ H.ne0 rfl]
  simp -implicitDefEqProofs only [c13, b0, b1, b2, c0, c1, c2, c3, c4, c5, e1, hl1, hl2, r0, List.append_assoc, List.set_set, push_cast, Nat.reduceAdd, Nat.reduceMul, Nat.reduceSub, Nat.reduceLT, Nat.reduceLeDiff, Nat.reduceEqDiff, Nat.reducePow, Int.reduceToNat, Int.reduceLT, Int.reduceLE, Int.reduceNeg, Int.reduceEq, Int.reducePow, reduceIte, reduceCtorEq, Int.reduceMul, Int.reduceAdd, Int.reduceSub, Int.reduceMod, Int.reduceDiv, Int.reduceTDiv, Int.reduceTMod, iter_s]
  exact ⟨_, row', rfl, do_mem H F H1 (by omega) (by omega) (by omega) (by omega) _ _, hr, F.boxes (by omega) (by omega) _ _⟩
theorem dop0e (k : Nat) (h : List Row) (M : AM) (row : Tg → Nat) (H : MemAt h M row) (t a o n : Int) (hb : t < 0 ∨ (M.n : Int) ≤ t ∨ a < 0 ∨ (M.na : Int) ≤ a) :
    ∃ h' row', evF cm (k + 130) 13 [.p (row .mem) 0 0, .agg [.i 0, .i t, .i a, .i o, .i n]] h 0 = some (.agg [.i (0), .b false, .i 2], h') ∧ MemAt h' (M) row' ∧ row' .mem = row .mem ∧ Frm (own M row) (own (M) row') h h' := by
  have Hb := H.app [⟨0, [.i 0, .i t, .i a, .i o, .i n]⟩, ⟨0, [.i 0, .b false, .i 0]⟩, ⟨0, [.i 0, .b false, .i 0]⟩]
  obtain ⟨b0, b1, b2⟩ := box3 h [.i 0, .i t, .i a, .i o, .i n] [.i 0, .b false, .i 0] [.i 0, .b false, .i 0]
  have bl : (h ++ [(⟨0, [.i 0, .i t, .i a, .i o, .i n]⟩ : Row), ⟨0, [.i 0, .b false, .i 0]⟩, ⟨0, [.i 0, .b false, .i 0]⟩]).length = h.length + 3 := by simp
  have e1 := load_err (k + 125) _ M row Hb t a hb
  obtain ⟨h1, hh1⟩ : ∃ h1, h1 = h ++ [(⟨0, [.i 0, .i t, .i a, .i o, .i n]⟩ : Row), ⟨0, [.i 0, .b false, .i 0]⟩, ⟨0, [.i 0, .b false, .i 0]⟩] := ⟨_, rfl⟩
  have F : Frm (own M row) (own M row) (h ++ [(⟨0, [.i 0, .i t, .i a, .i o, .i n]⟩ : Row), ⟨0, [.i 0, .b false, .i 0]⟩, ⟨0, [.i 0, .b false, .i 0]⟩]) h1 := by rw [hh1]; exact Frm.refl _ _
  have H1 : MemAt h1 M row := by rw [hh1]; exact Hb
  have hr : row .mem = row .mem := rfl
  have e1' : ∀ x, x = h ++ [(⟨0, [.i 0, .i t, .i a, .i o, .i n]⟩ : Row), ⟨0, [.i 0, .b false, .i 0]⟩, ⟨0, [.i 0, .b false, .i 0]⟩] → x = h1 := fun x hx => hx.trans hh1.symm
  replace e1 := e1.trans (congrArg (fun z => some (_, z)) (e1' _ rfl))
  clear e1'
  have c0 := F.ext (own_lt H (Nat.le_refl _)) b0
  have c1 := F.ext (own_lt H (by omega)) b1
  have c2 := F.ext (own_lt H (by omega)) b2
  have c3 : ∀ cs, rowOf (h1.set (h.length + 2) ⟨0, cs⟩) (h.length + 2) 0 = some cs := fun cs => rowOf_set_eq (rowOf_lt c2)
  have c4 : ∀ x, rowOf (h1.set (h.length + 2) x) (h.length + 1) 0 = some [.i 0, .b false, .i 0] := fun x => by rw [rowOf_set_ne (by omega)]; exact c1
  have c5 : ∀ x cs, rowOf ((h1.set (h.length + 2) x).set (h.length + 1) ⟨0, cs⟩) (h.length + 1) 0 = some cs := fun x cs => rowOf_set_eq (by rw [List.length_set]; exact rowOf_lt c1)
  have hl1 : ∀ x : Row, (h ++ [x]).length = h.length + 1 := fun x => by simp
  have hl2 : ∀ x y : Row, (h ++ [x, y]).length = h.length + 2 := fun x y => by simp
  have r0 : ∀ y, rowOf (h ++ [⟨0, [.i 0, .i t, .i a, .i o, .i n]⟩, y]) h.length 0 = some [.i 0, .i t, .i a, .i o, .i n] := fun y => rowOf_app_eq
  rw [evX_fun (m := c13) rfl _ _ _ _ H.ne0 rfl]
  simp -implicitDefEqProofs only [c13, b0, b1, b2, c0, c1, c2, c3, c4, c5, e1, hl1, hl2, r0, List.append_assoc, List.set_set, push_cast, Nat.reduceAdd, Nat.reduceMul, Nat.reduceSub, Nat.reduceLT, Nat.reduceLeDiff, Nat.reduceEqDiff, Nat.reducePow, Int.reduceToNat, Int.reduceLT, Int.reduceLE, Int.reduceNeg, Int.reduceEq, Int.reducePow, reduceIte, reduceCtorEq, Int.reduceMul, Int.reduceAdd, Int.reduceSub, Int.reduceMod, Int.reduceDiv, Int.reduceTDiv, Int.reduceTMod, iter_s]
  exact ⟨_, row, rfl, do_mem H F H1 (by omega) (by omega) (by omega) (by omega) _ _, hr, F.boxes (by omega) (by omega) _ _⟩
theorem dop1 (k : Nat) (h : List Row) (M : AM) (row : Tg → Nat) (H : MemAt h M row) (t a : Nat) (o n : Int) (ht : t < M.n) (ha : a < M.na) (hops : M.ops < 1000000000) (hcl : M.cl.length < 900000000) :
    ∃ h' row', evF cm (k + 130) 13 [.p (row .mem) 0 0, .agg [.i 1, .i t, .i a, .i o, .i n]] h 0 = some (.agg [.i (0), .b false, .i 0], h') ∧ MemAt h' (M.store t a n) row' ∧ row' .mem = row .mem ∧ Frm (own M row) (own (M.store t a n) row') h h' := by
  have Hb := H.app [⟨0, [.i 1, .i t, .i a, .i o, .i n]⟩, ⟨0, [.i 0, .b false, .i 0]⟩, ⟨0, [.i 0, .b false, .i 0]⟩]
  obtain ⟨b0, b1, b2⟩ := box3 h [.i 1, .i t, .i a, .i o, .i n] [.i 0, .b false, .i 0] [.i 0, .b false, .i 0]
  have bl : (h ++ [(⟨0, [.i 1, .i t, .i a, .i o, .i n]⟩ : Row), ⟨0, [.i 0, .b false, .i 0]⟩, ⟨0, [.i 0, .b false, .i 0]⟩]).length = h.length + 3 := by simp
  obtain ⟨h1, row', e1, H1, hr, F⟩ := store_ok (k + 19) _ M row Hb t a n ht ha hops
  have c0 := F.ext (own_lt H (Nat.le_refl _)) b0
  have c1 := F.ext (own_lt H (by omega)) b1
  have c2 := F.ext (own_lt H (by omega)) b2
  have c3 : ∀ cs, rowOf (h1.set (h.length + 2) ⟨0, cs⟩) (h.length + 2) 0 = some cs := fun cs => rowOf_set_eq (rowOf_lt c2)
  have c4 : ∀ x, rowOf (h1.set (h.length + 2) x) (h.length + 1) 0 = some [.i 0, .b false, .i 0] := fun x => by rw [rowOf_set_ne (by omega)]; exact c1
  have c5 : ∀ x cs, rowOf ((h1.set (h.length + 2) x).set (h.length + 1) ⟨0, cs⟩) (h.length + 1) 0 = some cs := fun x cs => rowOf_set_eq (by rw [List.length_set]; exact rowOf_lt c1)
  have hl1 : ∀ x : Row, (h ++ [x]).length = h.length + 1 := fun x => by simp
  have hl2 : ∀ x y : Row, (h ++ [x, y]).length = h.length + 2 := fun x y => by simp
  have r0 : ∀ y, rowOf (h ++ [⟨0, [.i 1, .i t, .i a, .i o, .i n]⟩, y]) h.length 0 = some [.i 1, .i t, .i a, .i o, .i n] := fun y => rowOf_app_eq
  rw [evX_fun (m := c13) rfl _ _ _ _ H.ne0 rfl]
  simp -implicitDefEqProofs only [c13, b0, b1, b2, c0, c1, c2, c3, c4, c5, e1, hl1, hl2, r0, List.append_assoc, List.set_set, push_cast, Nat.reduceAdd, Nat.reduceMul, Nat.reduceSub, Nat.reduceLT, Nat.reduceLeDiff, Nat.reduceEqDiff, Nat.reducePow, Int.reduceToNat, Int.reduceLT, Int.reduceLE, Int.reduceNeg, Int.reduceEq, Int.reducePow, reduceIte, reduceCtorEq, Int.reduceMul, Int.reduceAdd, Int.reduceSub, Int.reduceMod, Int.reduceDiv, Int.reduceTDiv, Int.reduceTMod, iter_s]
  exact ⟨_, row', rfl, do_mem H F H1 (by omega) (by omega) (by omega) (by omega) _ _, hr, F.boxes (by omega) (by omega) _ _⟩
theorem dop1e (k : Nat) (h : List Row) (M : AM) (row : Tg → Nat) (H : MemAt h M row) (t a o n : Int) (hb : t < 0 ∨ (M.n : Int) ≤ t ∨ a < 0 ∨ (M.na : Int) ≤ a) :
    ∃ h' row', evF cm (k + 130) 13 [.p (row .mem) 0 0, .agg [.i 1, .i t, .i a, .i o, .i n]] h 0 = some (.agg [.i (0), .b false, .i 2], h') ∧ MemAt h' (M) row' ∧ row' .mem = row .mem ∧ Frm (own M row) (own (M) row') h h' := by
  have Hb := H.app [⟨0, [.i 1, .i t, .i a, .i o, .i n]⟩, ⟨0, [.i 0, .b false, .i 0]⟩, ⟨0, [.i 0, .b false, .i 0]⟩]
  obtain ⟨b0, b1, b2⟩ := box3 h [.i 1, .i t, .i a, .i o, .i n] [.i 0, .b false, .i 0] [.i 0, .b false, .i 0]
  have bl : (h ++ [(⟨0, [.i 1, .i t, .i a, .i o, .i n]⟩ : Row), ⟨0, [.i 0, .b false, .i 0]⟩, ⟨0, [.i 0, .b false, .i 0]⟩]).length = h.length + 3 := by simp
  have e1 := store_err (k + 125) _ M row Hb t a n hb
  obtain ⟨h1, hh1⟩ : ∃ h1, h1 = h ++ [(⟨0, [.i 1, .i t, .i a, .i o, .i n]⟩ : Row), ⟨0, [.i 0, .b false, .i 0]⟩, ⟨0, [.i 0, .b false, .i 0]⟩] := ⟨_, rfl⟩
  have F : Frm (own M row) (own M row) (h ++ [(⟨0, [.i 1, .i t, .i a, .i o, .i n]⟩ : Row), ⟨0, [.i 0, .b false, .i 0]⟩, ⟨0, [.i 0, .b false, .i 0]⟩]) h1 := by rw [hh1]; exact Frm.refl _ _
  have H1 : MemAt h1 M row := by rw [hh1]; exact Hb
  have hr : row .mem = row .mem := rfl
  have e1' : ∀ x, x = h ++ [(⟨0, [.i 1, .i t, .i a, .i o, .i n]⟩ : Row), ⟨0, [.i 0, .b false, .i 0]⟩, ⟨0, [.i 0, .b false, .i 0]⟩] → x = h1 := fun x hx => hx.trans hh1.symm
  replace e1 := e1.trans (congrArg (fun z => some (_, z)) (e1' _ rfl))
  clear e1'
  have c0 := F.ext (own_lt H (Nat.le_refl _)) b0
  have c1 := F.ext (own_lt H (by omega)) b1
  have c2 := F.ext (own_lt H (by omega)) b2
  have c3 : ∀ cs, rowOf (h1.set (h.length + 2) ⟨0, cs⟩) (h.length + 2) 0 = some cs := fun cs => rowOf_set_eq (rowOf_lt c2)
  have c4 : ∀ x, rowOf (h1.set (h.length + 2) x) (h.length + 1) 0 = some [.i 0, .b false, .i 0] := fun x => by rw [rowOf_set_ne (by omega)]; exact c1
  have c5 : ∀ x cs, rowOf ((h1.set (h.length + 2) x).set (h.length + 1) ⟨0, cs⟩) (h.length + 1) 0 = some cs := fun x cs => rowOf_set_eq (by rw [List.length_set]; exact rowOf_lt c1)
  have hl1 : ∀ x : Row, (h ++ [x]).length = h.length + 1 := fun x => by simp
  have hl2 : ∀ x y : Row, (h ++ [x, y]).length = h.length + 2 := fun x y => by simp
  have r0 : ∀ y, rowOf (h ++ [⟨0, [.i 1, .i t, .i a, .i o, .i n]⟩, y]) h.length 0 = some [.i 1, .i t, .i a, .i o, .i n] := fun y => rowOf_app_eq
  rw [evX_fun (m := c13) rfl _ _ _ _ H.ne0 rfl]
  simp -implicitDefEqProofs only [c13, b0, b1, b2, c0, c1, c2, c3, c4, c5, e1, hl1, hl2, r0, List.append_assoc, List.set_set, push_cast, Nat.reduceAdd, Nat.reduceMul, Nat.reduceSub, Nat.reduceLT, Nat.reduceLeDiff, Nat.reduceEqDiff, Nat.reducePow, Int.reduceToNat, Int.reduceLT, Int.reduceLE, Int.reduceNeg, Int.reduceEq, Int.reducePow, reduceIte, reduceCtorEq, Int.reduceMul, Int.reduceAdd, Int.reduceSub, Int.reduceMod, Int.reduceDiv, Int.reduceTDiv, Int.reduceTMod, iter_s]
  exact ⟨_, row, rfl, do_mem H F H1 (by omega) (by omega) (by omega) (by omega) _ _, hr, F.boxes (by omega) (by omega) _ _⟩
theorem dop2 (k : Nat) (h : List Row) (M : AM) (row : Tg → Nat) (H : MemAt h M row) (t a : Nat) (o n : Int) (ht : t < M.n) (ha : a < M.na) (hops : M.ops < 1000000000) (hcl : M.cl.length < 900000000) :
    ∃ h' row', evF cm (k + 130) 13 [.p (row .mem) 0 0, .agg [.i 2, .i t, .i a, .i o, .i n]] h 0 = some (.agg [.i (0), .b (decide (M.av a = o)), .i 0], h') ∧ MemAt h' (M.swap t a o n) row' ∧ row' .mem = row .mem ∧ Frm (own M row) (own (M.swap t a o n) row') h h' := by
  have Hb := H.app [⟨0, [.i 2, .i t, .i a, .i o, .i n]⟩, ⟨0, [.i 0, .b false, .i 0]⟩, ⟨0, [.i 0, .b false, .i 0]⟩]
  obtain ⟨b0, b1, b2⟩ := box3 h [.i 2, .i t, .i a, .i o, .i n] [.i 0, .b false, .i 0] [.i 0, .b false, .i 0]
  have bl : (h ++ [(⟨0, [.i 2, .i t, .i a, .i o, .i n]⟩ : Row), ⟨0, [.i 0, .b false, .i 0]⟩, ⟨0, [.i 0, .b false, .i 0]⟩]).length = h.length + 3 := by simp
  obtain ⟨h1, row', e1, H1, hr, F⟩ := swap_ok (k + 19) _ M row Hb t a o n ht ha hops
  have c0 := F.ext (own_lt H (Nat.le_refl _)) b0
  have c1 := F.ext (own_lt H (by omega)) b1
  have c2 := F.ext (own_lt H (by omega)) b2
  have c3 : ∀ cs, rowOf (h1.set (h.length + 2) ⟨0, cs⟩) (h.length + 2) 0 = some cs := fun cs => rowOf_set_eq (rowOf_lt c2)
  have c4 : ∀ x, rowOf (h1.set (h.length + 2) x) (h.length + 1) 0 = some [.i 0, .b false, .i 0] := fun x => by rw [rowOf_set_ne (by omega)]; exact c1
  have c5 : ∀ x cs, rowOf ((h1.set (h.length + 2) x).set (h.length + 1) ⟨0, cs⟩) (h.length + 1) 0 = some cs := fun x cs => rowOf_set_eq (by rw [List.length_set]; exact rowOf_lt c1)
  have hl1 : ∀ x : Row, (h ++ [x]).length = h.length + 1 := fun x => by simp
  have hl2 : ∀ x y : Row, (h ++ [x, y]).length = h.length + 2 := fun x y => by simp
  have r0 : ∀ y, rowOf (h ++ [⟨0, [.i 2, .i t, .i a, .i o, .i n]⟩, y]) h.length 0 = some [.i 2, .i t, .i a, .i o, .i n] := fun y => rowOf_app_eq
  rw [evX_fun (m := c13) rfl _ _ _ _ H.ne0 rfl]
  simp -implicitDefEqProofs only [c13, b0, b1, b2, c0, c1, c2, c3, c4, c5, e1, hl1, hl2, r0, List.append_assoc, List.set_set, push_cast, Nat.reduceAdd, Nat.reduceMul, Nat.reduceSub, Nat.reduceLT, Nat.reduceLeDiff, Nat.reduceEqDiff, Nat.reducePow, Int.reduceToNat, Int.reduceLT, Int.reduceLE, Int.reduceNeg, Int.reduceEq, Int.reducePow, reduceIte, reduceCtorEq, Int.reduceMul, Int.reduceAdd, Int.reduceSub, Int.reduceMod, Int.reduceDiv, Int.reduceTDiv, Int.reduceTMod, iter_s]
  exact ⟨_, row', rfl, do_mem H F H1 (by omega) (by omega) (by omega) (by omega) _ _, hr, F.boxes (by omega) (by omega) _ _⟩
theorem dop2e (k : Nat) (h : List Row) (M : AM) (row : Tg → Nat) (H : MemAt h M row) (t a o n : Int) (hb : t < 0 ∨ (M.n : Int) ≤ t ∨ a < 0 ∨ (M.na : Int) ≤ a) :
    ∃ h' row', evF cm (k + 130) 13 [.p (row .mem) 0 0, .agg [.i 2, .i t, .i a, .i o, .i n]] h 0 = some (.agg [.i (0), .b false, .i 2], h') ∧ MemAt h' (M) row' ∧ row' .mem = row .mem ∧ Frm (own M row) (own (M) row') h h' := by
  have Hb := H.app [⟨0, [.i 2, .i t, .i a, .i o, .i n]⟩, ⟨0, [.i 0, .b false, .i 0]⟩, ⟨0, [.i 0, .b false, .i 0]⟩]
  obtain ⟨b0, b1, b2⟩ := box3 h [.i 2, .i t, .i a, .i o, .i n] [.i 0, .b false, .i 0] [.i 0, .b false, .i 0]
  have bl : (h ++ [(⟨0, [.i 2, .i t, .i a, .i o, .i n]⟩ : Row), ⟨0, [.i 0, .b false, .i 0]⟩, ⟨0, [.i 0, .b false, .i 0]⟩]).length = h.length + 3 := by simp
  have e1 := swap_err (k + 125) _ M row Hb t a o n hb
  obtain ⟨h1, hh1⟩ : ∃ h1, h1 = h ++ [(⟨0, [.i 2, .i t, .i a, .i o, .i n]⟩ : Row), ⟨0, [.i 0, .b false, .i 0]⟩, ⟨0, [.i 0, .b false, .i 0]⟩] := ⟨_, rfl⟩
  have F : Frm (own M row) (own M row) (h ++ [(⟨0, [.i 2, .i t, .i a, .i o, .i n]⟩ : Row), ⟨0, [.i 0, .b false, .i 0]⟩, ⟨0, [.i 0, .b false, .i 0]⟩]) h1 := by rw [hh1]; exact Frm.refl _ _
  have H1 : MemAt h1 M row := by rw [hh1]; exact Hb
  have hr : row .mem = row .mem := rfl
  have e1' : ∀ x, x = h ++ [(⟨0, [.i 2, .i t, .i a, .i o, .i n]⟩ : Row), ⟨0, [.i 0, .b false, .i 0]⟩, ⟨0, [.i 0, .b false, .i 0]⟩] → x = h1 := fun x hx => hx.trans hh1.symm
  replace e1 := e1.trans (congrArg (fun z => some (_, z)) (e1' _ rfl))
  clear e1'
  have c0 := F.ext (own_lt H (Nat.le_refl _)) b0
  have c1 := F.ext (own_lt H (by omega)) b1
  have c2 := F.ext (own_lt H (by omega)) b2
  have c3 : ∀ cs, rowOf (h1.set (h.length + 2) ⟨0, cs⟩) (h.length + 2) 0 = some cs := fun cs => rowOf_set_eq (rowOf_lt c2)
  have c4 : ∀ x, rowOf (h1.set (h.length + 2) x) (h.length + 1) 0 = some [.i 0, .b false, .i 0] := fun x => by rw [rowOf_set_ne (by omega)]; exact c1
  have c5 : ∀ x cs, rowOf ((h1.set (h.length + 2) x).set (h.length + 1) ⟨0, cs⟩) (h.length + 1) 0 = some cs := fun x cs => rowOf_set_eq (by rw [List.length_set]; exact rowOf_lt c1)
  have hl1 : ∀ x : Row, (h ++ [x]).length = h.length + 1 := fun x => by simp
  have hl2 : ∀ x y : Row, (h ++ [x, y]).length = h.length + 2 := fun x y => by simp
  have r0 : ∀ y, rowOf (h ++ [⟨0, [.i 2, .i t, .i a, .i o, .i n]⟩, y]) h.length 0 = some [.i 2, .i t, .i a, .i o, .i n] := fun y => rowOf_app_eq
  rw [evX_fun (m := c13) rfl _ _ _ _ H.ne0 rfl]
  simp -implicitDefEqProofs only [c13, b0, b1, b2, c0, c1, c2, c3, c4, c5, e1, hl1, hl2, r0, List.append_assoc, List.set_set, push_cast, Nat.reduceAdd, Nat.reduceMul, Nat.reduceSub, Nat.reduceLT, Nat.reduceLeDiff, Nat.reduceEqDiff, Nat.reducePow, Int.reduceToNat, Int.reduceLT, Int.reduceLE, Int.reduceNeg, Int.reduceEq, Int.reducePow, reduceIte, reduceCtorEq, Int.reduceMul, Int.reduceAdd, Int.reduceSub, Int.reduceMod, Int.reduceDiv, Int.reduceTDiv, Int.reduceTMod, iter_s]
  exact ⟨_, row, rfl, do_mem H F H1 (by omega) (by omega) (by omega) (by omega) _ _, hr, F.boxes (by omega) (by omega) _ _⟩
theorem dop3 (k : Nat) (h : List Row) (M : AM) (row : Tg → Nat) (H : MemAt h M row) (t a : Nat) (o n : Int) (ht : t < M.n) (ha : a < M.na) (hops : M.ops < 1000000000) (hcl : M.cl.length < 900000000) :
    ∃ h' row', evF cm (k + 130) 13 [.p (row .mem) 0 0, .agg [.i 3, .i t, .i a, .i o, .i n]] h 0 = some (.agg [.i (IntKind.i64.wrap (M.av a + n)), .b false, .i 0], h') ∧ MemAt h' (M.add t a (IntKind.i64.wrap (M.av a + n))) row' ∧ row' .mem = row .mem ∧ Frm (own M row) (own (M.add t a (IntKind.i64.wrap (M.av a + n))) row') h h' := by
  have Hb := H.app [⟨0, [.i 3, .i t, .i a, .i o, .i n]⟩, ⟨0, [.i 0, .b false, .i 0]⟩, ⟨0, [.i 0, .b false, .i 0]⟩]
  obtain ⟨b0, b1, b2⟩ := box3 h [.i 3, .i t, .i a, .i o, .i n] [.i 0, .b false, .i 0] [.i 0, .b false, .i 0]
  have bl : (h ++ [(⟨0, [.i 3, .i t, .i a, .i o, .i n]⟩ : Row), ⟨0, [.i 0, .b false, .i 0]⟩, ⟨0, [.i 0, .b false, .i 0]⟩]).length = h.length + 3 := by simp
  obtain ⟨h1, row', e1, H1, hr, F⟩ := add_ok (k + 19) _ M row Hb t a n _ rfl ht ha hops
  have c0 := F.ext (own_lt H (Nat.le_refl _)) b0
  have c1 := F.ext (own_lt H (by omega)) b1
  have c2 := F.ext (own_lt H (by omega)) b2
  have c3 : ∀ cs, rowOf (h1.set (h.length + 2) ⟨0, cs⟩) (h.length + 2) 0 = some cs := fun cs => rowOf_set_eq (rowOf_lt c2)
  have c4 : ∀ x, rowOf (h1.set (h.length + 2) x) (h.length + 1) 0 = some [.i 0, .b false, .i 0] := fun x => by rw [rowOf_set_ne (by omega)]; exact c1
  have c5 : ∀ x cs, rowOf ((h1.set (h.length + 2) x).set (h.length + 1) ⟨0, cs⟩) (h.length + 1) 0 = some cs := fun x cs => rowOf_set_eq (by rw [List.length_set]; exact rowOf_lt c1)
  have hl1 : ∀ x : Row, (h ++ [x]).length = h.length + 1 := fun x => by simp
  have hl2 : ∀ x y : Row, (h ++ [x, y]).length = h.length + 2 := fun x y => by simp
  have r0 : ∀ y, rowOf (h ++ [⟨0, [.i 3, .i t, .i a, .i o, .i n]⟩, y]) h.length 0 = some [.i 3, .i t, .i a, .i o, .i n] := fun y => rowOf_app_eq
  rw [evX_fun (m := c13) rfl _ _ _ _ H.ne0 rfl]
  simp -implicitDefEqProofs only [c13, b0, b1, b2, c0, c1, c2, c3, c4, c5, e1, hl1, hl2, r0, List.append_assoc, List.set_set, push_cast, Nat.reduceAdd, Nat.reduceMul, Nat.reduceSub, Nat.reduceLT, Nat.reduceLeDiff, Nat.reduceEqDiff, Nat.reducePow, Int.reduceToNat, Int.reduceLT, Int.reduceLE, Int.reduceNeg, Int.reduceEq, Int.reducePow, reduceIte, reduceCtorEq, Int.reduceMul, Int.reduceAdd, Int.reduceSub, Int.reduceMod, Int.reduceDiv, Int.reduceTDiv, Int.reduceTMod, iter_s]
  exact ⟨_, row', rfl, do_mem H F H1 (by omega) (by omega) (by omega) (by omega) _ _, hr, F.boxes (by omega) (by omega) _ _⟩
theorem dop3e (k : Nat) (h : List Row) (M : AM) (row : Tg → Nat) (H : MemAt h M row) (t a o n : Int) (hb : t < 0 ∨ (M.n : Int) ≤ t ∨ a < 0 ∨ (M.na : Int) ≤ a) :
    ∃ h' row', evF cm (k + 130) 13 [.p (row .mem) 0 0, .agg [.i 3, .i t, .i a, .i o, .i n]] h 0 = some (.agg [.i (0), .b false, .i 2], h') ∧ MemAt h' (M) row' ∧ row' .mem = row .mem ∧ Frm (own M row) (own (M) row') h h' := by
  have Hb := H.app [⟨0, [.i 3, .i t, .i a, .i o, .i n]⟩, ⟨0, [.i 0, .b false, .i 0]⟩, ⟨0, [.i 0, .b false, .i 0]⟩]
  obtain ⟨b0, b1, b2⟩ := box3 h [.i 3, .i t, .i a, .i o, .i n] [.i 0, .b false, .i 0] [.i 0, .b false, .i 0]
  have bl : (h ++ [(⟨0, [.i 3, .i t, .i a, .i o, .i n]⟩ : Row), ⟨0, [.i 0, .b false, .i 0]⟩, ⟨0, [.i 0, .b false, .i 0]⟩]).length = h.length + 3 := by simp
  have e1 := add_err (k + 125) _ M row Hb t a n hb
  obtain ⟨h1, hh1⟩ : ∃ h1, h1 = h ++ [(⟨0, [.i 3, .i t, .i a, .i o, .i n]⟩ : Row), ⟨0, [.i 0, .b false, .i 0]⟩, ⟨0, [.i 0, .b false, .i 0]⟩] := ⟨_, rfl⟩
  have F : Frm (own M row) (own M row) (h ++ [(⟨0, [.i 3, .i t, .i a, .i o, .i n]⟩ : Row), ⟨0, [.i 0, .b false, .i 0]⟩, ⟨0, [.i 0, .b false, .i 0]⟩]) h1 := by rw [hh1]; exact Frm.refl _ _
  have H1 : MemAt h1 M row := by rw [hh1]; exact Hb
  have hr : row .mem = row .mem := rfl
  have e1' : ∀ x, x = h ++ [(⟨0, [.i 3, .i t, .i a, .i o, .i n]⟩ : Row), ⟨0, [.i 0, .b false, .i 0]⟩, ⟨0, [.i 0, .b false, .i 0]⟩] → x = h1 := fun x hx => hx.trans hh1.symm
  replace e1 := e1.trans (congrArg (fun z => some (_, z)) (e1' _ rfl))
  clear e1'
  have c0 := F.ext (own_lt H (Nat.le_refl _)) b0
  have c1 := F.ext (own_lt H (by omega)) b1
  have c2 := F.ext (own_lt H (by omega)) b2
  have c3 : ∀ cs, rowOf (h1.set (h.length + 2) ⟨0, cs⟩) (h.length + 2) 0 = some cs := fun cs => rowOf_set_eq (rowOf_lt c2)
  have c4 : ∀ x, rowOf (h1.set (h.length + 2) x) (h.length + 1) 0 = some [.i 0, .b false, .i 0] := fun x => by rw [rowOf_set_ne (by omega)]; exact c1
  have c5 : ∀ x cs, rowOf ((h1.set (h.length + 2) x).set (h.length + 1) ⟨0, cs⟩) (h.length + 1) 0 = some cs := fun x cs => rowOf_set_eq (by rw [List.length_set]; exact rowOf_lt c1)
  have hl1 : ∀ x : Row, (h ++ [x]).length = h.length + 1 := fun x => by simp
  have hl2 : ∀ x y : Row, (h ++ [x, y]).length = h.length + 2 := fun x y => by simp
  have r0 : ∀ y, rowOf (h ++ [⟨0, [.i 3, .i t, .i a, .i o, .i n]⟩, y]) h.length 0 = some [.i 3, .i t, .i a, .i o, .i n] := fun y => rowOf_app_eq
  rw [evX_fun (m := c13) rfl _ _ _ _ H.ne0 rfl]
  simp -implicitDefEqProofs only [c13, b0, b1, b2, c0, c1, c2, c3, c4, c5, e1, hl1, hl2, r0, List.append_assoc, List.set_set, push_cast, Nat.reduceAdd, Nat.reduceMul, Nat.reduceSub, Nat.reduceLT, Nat.reduceLeDiff, Nat.reduceEqDiff, Nat.reducePow, Int.reduceToNat, Int.reduceLT, Int.reduceLE, Int.reduceNeg, Int.reduceEq, Int.reducePow, reduceIte, reduceCtorEq, Int.reduceMul, Int.reduceAdd, Int.reduceSub, Int.reduceMod, Int.reduceDiv, Int.reduceTDiv, Int.reduceTMod, iter_s]
  exact ⟨_, row, rfl, do_mem H F H1 (by omega) (by omega) (by omega) (by omega) _ _, hr, F.boxes (by omega) (by omega) _ _⟩
theorem dop4 (k : Nat) (h : List Row) (M : AM) (row : Tg → Nat) (H : MemAt h M row) (t a : Nat) (o n : Int) (ht : t < M.n) (ha : a < M.np) (hops : M.ops < 1000000000) (hcl : M.cl.length < 900000000) :
    ∃ h' row', evF cm (k + 130) 13 [.p (row .mem) 0 0, .agg [.i 4, .i t, .i a, .i o, .i n]] h 0 = some (.agg [.i (0), .b false, .i 0], h') ∧ MemAt h' (M.access t a false) row' ∧ row' .mem = row .mem ∧ Frm (own M row) (own (M.access t a false) row') h h' := by
  have Hb := H.app [⟨0, [.i 4, .i t, .i a, .i o, .i n]⟩, ⟨0, [.i 0, .b false, .i 0]⟩, ⟨0, [.i 0, .b false, .i 0]⟩]
  obtain ⟨b0, b1, b2⟩ := box3 h [.i 4, .i t, .i a, .i o, .i n] [.i 0, .b false, .i 0] [.i 0, .b false, .i 0]
  have bl : (h ++ [(⟨0, [.i 4, .i t, .i a, .i o, .i n]⟩ : Row), ⟨0, [.i 0, .b false, .i 0]⟩, ⟨0, [.i 0, .b false, .i 0]⟩]).length = h.length + 3 := by simp
  obtain ⟨h1, row', e1, H1, hr, F⟩ := read_ok (k + 18) _ M row Hb t a ht ha hops hcl
  have c0 := F.ext (own_lt H (Nat.le_refl _)) b0
  have c1 := F.ext (own_lt H (by omega)) b1
  have c2 := F.ext (own_lt H (by omega)) b2
  have c3 : ∀ cs, rowOf (h1.set (h.length + 2) ⟨0, cs⟩) (h.length + 2) 0 = some cs := fun cs => rowOf_set_eq (rowOf_lt c2)
  have c4 : ∀ x, rowOf (h1.set (h.length + 2) x) (h.length + 1) 0 = some [.i 0, .b false, .i 0] := fun x => by rw [rowOf_set_ne (by omega)]; exact c1
  have c5 : ∀ x cs, rowOf ((h1.set (h.length + 2) x).set (h.length + 1) ⟨0, cs⟩) (h.length + 1) 0 = some cs := fun x cs => rowOf_set_eq (by rw [List.length_set]; exact rowOf_lt c1)
  have hl1 : ∀ x : Row, (h ++ [x]).length = h.length + 1 := fun x => by simp
  have hl2 : ∀ x y : Row, (h ++ [x, y]).length = h.length + 2 := fun x y => by simp
  have r0 : ∀ y, rowOf (h ++ [⟨0, [.i 4, .i t, .i a, .i o, .i n]⟩, y]) h.length 0 = some [.i 4, .i t, .i a, .i o, .i n] := fun y => rowOf_app_eq
  rw [evX_fun (m := c13) rfl _ _ _ _ H.ne0 rfl]
  simp -implicitDefEqProofs only [c13, b0, b1, b2, c0, c1, c2, c3, c4, c5, e1, hl1, hl2, r0, List.append_assoc, List.set_set, push_cast, Nat.reduceAdd, Nat.reduceMul, Nat.reduceSub, Nat.reduceLT, Nat.reduceLeDiff, Nat.reduceEqDiff, Nat.reducePow, Int.reduceToNat, Int.reduceLT, Int.reduceLE, Int.reduceNeg, Int.reduceEq, Int.reducePow, reduceIte, reduceCtorEq, Int.reduceMul, Int.reduceAdd, Int.reduceSub, Int.reduceMod, Int.reduceDiv, Int.reduceTDiv, Int.reduceTMod, iter_s]
  exact ⟨_, row', rfl, do_mem H F H1 (by omega) (by omega) (by omega) (by omega) _ _, hr, F.boxes (by omega) (by omega) _ _⟩
theorem dop4e (k : Nat) (h : List Row) (M : AM) (row : Tg → Nat) (H : MemAt h M row) (t a o n : Int) (hb : t < 0 ∨ (M.n : Int) ≤ t ∨ a < 0 ∨ (M.np : Int) ≤ a) :
    ∃ h' row', evF cm (k + 130) 13 [.p (row .mem) 0 0, .agg [.i 4, .i t, .i a, .i o, .i n]] h 0 = some (.agg [.i (0), .b false, .i 2], h') ∧ MemAt h' (M) row' ∧ row' .mem = row .mem ∧ Frm (own M row) (own (M) row') h h' := by
  have Hb := H.app [⟨0, [.i 4, .i t, .i a, .i o, .i n]⟩, ⟨0, [.i 0, .b false, .i 0]⟩, ⟨0, [.i 0, .b false, .i 0]⟩]
  obtain ⟨b0, b1, b2⟩ := box3 h [.i 4, .i t, .i a, .i o, .i n] [.i 0, .b false, .i 0] [.i 0, .b false, .i 0]
  have bl : (h ++ [(⟨0, [.i 4, .i t, .i a, .i o, .i n]⟩ : Row), ⟨0, [.i 0, .b false, .i 0]⟩, ⟨0, [.i 0, .b false, .i 0]⟩]).length = h.length + 3 := by simp
  have e1 := read_err (k + 124) _ M row Hb t a hb
  obtain ⟨h1, hh1⟩ : ∃ h1, h1 = h ++ [(⟨0, [.i 4, .i t, .i a, .i o, .i n]⟩ : Row), ⟨0, [.i 0, .b false, .i 0]⟩, ⟨0, [.i 0, .b false, .i 0]⟩] := ⟨_, rfl⟩
  have F : Frm (own M row) (own M row) (h ++ [(⟨0, [.i 4, .i t, .i a, .i o, .i n]⟩ : Row), ⟨0, [.i 0, .b false, .i 0]⟩, ⟨0, [.i 0, .b false, .i 0]⟩]) h1 := by rw [hh1]; exact Frm.refl _ _
  have H1 : MemAt h1 M row := by rw [hh1]; exact Hb
  have hr : row .mem = row .mem := rfl
  have e1' : ∀ x, x = h ++ [(⟨0, [.i 4, .i t, .i a, .i o, .i n]⟩ : Row), ⟨0, [.i 0, .b false, .i 0]⟩, ⟨0, [.i 0, .b false, .i 0]⟩] → x = h1 := fun x hx => hx.trans hh1.symm
  replace e1 := e1.trans (congrArg (fun z => some (_, z)) (e1' _ rfl))
  clear e1'
  have c0 := F.ext (own_lt H (Nat.le_refl _)) b0
  have c1 := F.ext (own_lt H (by omega)) b1
  have c2 := F.ext (own_lt H (by omega)) b2
  have c3 : ∀ cs, rowOf (h1.set (h.length + 2) ⟨0, cs⟩) (h.length + 2) 0 = some cs := fun cs => rowOf_set_eq (rowOf_lt c2)
  have c4 : ∀ x, rowOf (h1.set (h.length + 2) x) (h.length + 1) 0 = some [.i 0, .b false, .i 0] := fun x => by rw [rowOf_set_ne (by omega)]; exact c1
  have c5 : ∀ x cs, rowOf ((h1.set (h.length + 2) x).set (h.length + 1) ⟨0, cs⟩) (h.length + 1) 0 = some cs := fun x cs => rowOf_set_eq (by rw [List.length_set]; exact rowOf_lt c1)
  have hl1 : ∀ x : Row, (h ++ [x]).length = h.length + 1 := fun x => by simp
  have hl2 : ∀ x y : Row, (h ++ [x, y]).length = h.length + 2 := fun x y => by simp
  have r0 : ∀ y, rowOf (h ++ [⟨0, [.i 4, .i t, .i a, .i o, .i n]⟩, y]) h.length 0 = some [.i 4, .i t, .i a, .i o, .i n] := fun y => rowOf_app_eq
  rw [evX_fun (m := c13) rfl _ _ _ _ H.ne0 rfl]
  simp -implicitDefEqProofs only [c13, b0, b1, b2, c0, c1, c2, c3, c4, c5, e1, hl1, hl2, r0, List.append_assoc, List.set_set, push_cast, Nat.reduceAdd, Nat.reduceMul, Nat.reduceSub, Nat.reduceLT, Nat.reduceLeDiff, Nat.reduceEqDiff, Nat.reducePow, Int.reduceToNat, Int.reduceLT, Int.reduceLE, Int.reduceNeg, Int.reduceEq, Int.reducePow, reduceIte, reduceCtorEq, Int.reduceMul, Int.reduceAdd, Int.reduceSub, Int.reduceMod, Int.reduceDiv, Int.reduceTDiv, Int.reduceTMod, iter_s]
  exact ⟨_, row, rfl, do_mem H F H1 (by omega) (by omega) (by omega) (by omega) _ _, hr, F.boxes (by omega) (by omega) _ _⟩
theorem dop5 (k : Nat) (h : List Row) (M : AM) (row : Tg → Nat) (H : MemAt h M row) (t a : Nat) (o n : Int) (ht : t < M.n) (ha : a < M.np) (hops : M.ops < 1000000000) (hcl : M.cl.length < 900000000) :
    ∃ h' row', evF cm (k + 130) 13 [.p (row .mem) 0 0, .agg [.i 5, .i t, .i a, .i o, .i n]] h 0 = some (.agg [.i (0), .b false, .i 0], h') ∧ MemAt h' (M.access t a true) row' ∧ row' .mem = row .mem ∧ Frm (own M row) (own (M.access t a true) row') h h' := by
  have Hb := H.app [⟨0, [.i 5, .i t, .i a, .i o, .i n]⟩, ⟨0, [.i 0, .b false, .i 0]⟩, ⟨0, [.i 0, .b false, .i 0]⟩]
  obtain ⟨b0, b1, b2⟩ := box3 h [.i 5, .i t, .i a, .i o, .i n] [.i 0, .b false, .i 0] [.i 0, .b false, .i 0]
  have bl : (h ++ [(⟨0, [.i 5, .i t, .i a, .i o, .i n]⟩ : Row), ⟨0, [.i 0, .b false, .i 0]⟩, ⟨0, [.i 0, .b false, .i 0]⟩]).length = h.length + 3 := by simp
  obtain ⟨h1, row', e1, H1, hr, F⟩ := write_ok (k + 18) _ M row Hb t a ht ha hops hcl
  have c0 := F.ext (own_lt H (Nat.le_refl _)) b0
  have c1 := F.ext (own_lt H (by omega)) b1
  have c2 := F.ext (own_lt H (by omega)) b2
  have c3 : ∀ cs, rowOf (h1.set (h.length + 2) ⟨0, cs⟩) (h.length + 2) 0 = some cs := fun cs => rowOf_set_eq (rowOf_lt c2)
  have c4 : ∀ x, rowOf (h1.set (h.length + 2) x) (h.length + 1) 0 = some [.i 0, .b false, .i 0] := fun x => by rw [rowOf_set_ne (by omega)]; exact c1
  have c5 : ∀ x cs, rowOf ((h1.set (h.length + 2) x).set (h.length + 1) ⟨0, cs⟩) (h.length + 1) 0 = some cs := fun x cs => rowOf_set_eq (by rw [List.length_set]; exact rowOf_lt c1)
  have hl1 : ∀ x : Row, (h ++ [x]).length = h.length + 1 := fun x => by simp
  have hl2 : ∀ x y : Row, (h ++ [x, y]).length = h.length + 2 := fun x y => by simp
  have r0 : ∀ y, rowOf (h ++ [⟨0, [.i 5, .i t, .i a, .i o, .i n]⟩, y]) h.length 0 = some [.i 5, .i t, .i a, .i o, .i n] := fun y => rowOf_app_eq
  rw [evX_fun (m := c13) rfl _ _ _ _ H.ne0 rfl]
  simp -implicitDefEqProofs only [c13, b0, b1, b2, c0, c1, c2, c3, c4, c5, e1, hl1, hl2, r0, List.append_assoc, List.set_set, push_cast, Nat.reduceAdd, Nat.reduceMul, Nat.reduceSub, Nat.reduceLT, Nat.reduceLeDiff, Nat.reduceEqDiff, Nat.reducePow, Int.reduceToNat, Int.reduceLT, Int.reduceLE, Int.reduceNeg, Int.reduceEq, Int.reducePow, reduceIte, reduceCtorEq, Int.reduceMul, Int.reduceAdd, Int.reduceSub, Int.reduceMod, Int.reduceDiv, Int.reduceTDiv, Int.reduceTMod, iter_s]
  exact ⟨_, row', rfl, do_mem H F H1 (by omega) (by omega) (by omega) (by omega) _ _, hr, F.boxes (by omega) (by omega) _ _⟩
theorem dop5e (k : Nat) (h : List Row) (M : AM) (row : Tg → Nat) (H : MemAt h M row) (t a o n : Int) (hb : t < 0 ∨ (M.n : Int) ≤ t ∨ a < 0 ∨ (M.np : Int) ≤ a) :
    ∃ h' row', evF cm (k + 130) 13 [.p (row .mem) 0 0, .agg [.i 5, .i t, .i a, .i o, .i n]] h 0 = some (.agg [.i (0), .b false, .i 2], h') ∧ MemAt h' (M) row' ∧ row' .mem = row .mem ∧ Frm (own M row) (own (M) row') h h' := by
  have Hb := H.app [⟨0, [.i 5, .i t, .i a, .i o, .i n]⟩, ⟨0, [.i 0, .b false, .i 0]⟩, ⟨0, [.i 0, .b false, .i 0]⟩]
  obtain ⟨b0, b1, b2⟩ := box3 h [.i 5, .i t, .i a, .i o, .i n] [.i 0, .b false, .i 0] [.i 0, .b false, .i 0]
  have bl : (h ++ [(⟨0, [.i 5, .i t, .i a, .i o, .i n]⟩ : Row), ⟨0, [.i 0, .b false, .i 0]⟩, ⟨0, [.i 0, .b false, .i 0]⟩]).length = h.length + 3 := by simp
  have e1 := write_err (k + 124) _ M row Hb t a hb
  obtain ⟨h1, hh1⟩ : ∃ h1, h1 = h ++ [(⟨0, [.i 5, .i t, .i a, .i o, .i n]⟩ : Row), ⟨0, [.i 0, .b false, .i 0]⟩, ⟨0, [.i 0, .b false, .i 0]⟩] := ⟨_, rfl⟩
  have F : Frm (own M row) (own M row) (h ++ [(⟨0, [.i 5, .i t, .i a, .i o, .i n]⟩ : Row), ⟨0, [.i 0, .b false, .i 0]⟩, ⟨0, [.i 0, .b false, .i 0]⟩]) h1 := by rw [hh1]; exact Frm.refl _ _
  have H1 : MemAt h1 M row := by rw [hh1]; exact Hb
  have hr : row .mem = row .mem := rfl
  have e1' : ∀ x, x = h ++ [(⟨0, [.i 5, .i t, .i a, .i o, .i n]⟩ : Row), ⟨0, [.i 0, .b false, .i 0]⟩, ⟨0, [.i 0, .b false, .i 0]⟩] → x = h1 := fun x hx => hx.trans hh1.symm
  replace e1 := e1.trans (congrArg (fun z => some (_, z)) (e1' _ rfl))
  clear e1'
  have c0 := F.ext (own_lt H (Nat.le_refl _)) b0
  have c1 := F.ext (own_lt H (by omega)) b1
  have c2 := F.ext (own_lt H (by omega)) b2
  have c3 : ∀ cs, rowOf (h1.set (h.length + 2) ⟨0, cs⟩) (h.length + 2) 0 = some cs := fun cs => rowOf_set_eq (rowOf_lt c2)
  have c4 : ∀ x, rowOf (h1.set (h.length + 2) x) (h.length + 1) 0 = some [.i 0, .b false, .i 0] := fun x => by rw [rowOf_set_ne (by omega)]; exact c1
  have c5 : ∀ x cs, rowOf ((h1.set (h.length + 2) x).set (h.length + 1) ⟨0, cs⟩) (h.length + 1) 0 = some cs := fun x cs => rowOf_set_eq (by rw [List.length_set]; exact rowOf_lt c1)
  have hl1 : ∀ x : Row, (h ++ [x]).length = h.length + 1 := fun x => by simp
  have hl2 : ∀ x y : Row, (h ++ [x, y]).length = h.length + 2 := fun x y => by simp
  have r0 : ∀ y, rowOf (h ++ [⟨0, [.i 5, .i t, .i a, .i o, .i n]⟩, y]) h.length 0 = some [.i 5, .i t, .i a, .i o, .i n] := fun y => rowOf_app_eq
  rw [evX_fun (m := c13) rfl _ _ _ _ H.ne0 rfl]
  simp -implicitDefEqProofs only [c13, b0, b1, b2, c0, c1, c2, c3, c4, c5, e1, hl1, hl2, r0, List.append_assoc, List.set_set, push_cast, Nat.reduceAdd, Nat.reduceMul, Nat.reduceSub, Nat.reduceLT, Nat.reduceLeDiff, Nat.reduceEqDiff, Nat.reducePow, Int.reduceToNat, Int.reduceLT, Int.reduceLE, Int.reduceNeg, Int.reduceEq, Int.reducePow, reduceIte, reduceCtorEq, Int.reduceMul, Int.reduceAdd, Int.reduceSub, Int.reduceMod, Int.reduceDiv, Int.reduceTDiv, Int.reduceTMod, iter_s]
  exact ⟨_, row, rfl, do_mem H F H1 (by omega) (by omega) (by omega) (by omega) _ _, hr, F.boxes (by omega) (by omega) _ _⟩
theorem dop6 (k : Nat) (h : List Row) (M : AM) (row : Tg → Nat) (H : MemAt h M row) (t a : Nat) (o n : Int) (ht : t < M.n) (ha : a < M.nl) (hops : M.ops < 1000000000) (hcl : M.cl.length < 900000000) :
    ∃ h' row', evF cm (k + 130) 13 [.p (row .mem) 0 0, .agg [.i 6, .i t, .i a, .i o, .i n]] h 0 = some (.agg [.i (0), .b (decide (M.lo a = -1)), .i 0], h') ∧ MemAt h' (M.lock t a) row' ∧ row' .mem = row .mem ∧ Frm (own M row) (own (M.lock t a) row') h h' := by
  have Hb := H.app [⟨0, [.i 6, .i t, .i a, .i o, .i n]⟩, ⟨0, [.i 0, .b false, .i 0]⟩, ⟨0, [.i 0, .b false, .i 0]⟩]
  obtain ⟨b0, b1, b2⟩ := box3 h [.i 6, .i t, .i a, .i o, .i n] [.i 0, .b false, .i 0] [.i 0, .b false, .i 0]
  have bl : (h ++ [(⟨0, [.i 6, .i t, .i a, .i o, .i n]⟩ : Row), ⟨0, [.i 0, .b false, .i 0]⟩, ⟨0, [.i 0, .b false, .i 0]⟩]).length = h.length + 3 := by simp
  obtain ⟨h1, e1, H1, F⟩ := lock_ok (k + 19) _ M row Hb t a ht ha hops
  have hr : row .mem = row .mem := rfl
  obtain ⟨row', hrow⟩ : ∃ row', row' = row := ⟨_, rfl⟩
  subst hrow
  have c0 := F.ext (own_lt H (Nat.le_refl _)) b0
  have c1 := F.ext (own_lt H (by omega)) b1
  have c2 := F.ext (own_lt H (by omega)) b2
  have c3 : ∀ cs, rowOf (h1.set (h.length + 2) ⟨0, cs⟩) (h.length + 2) 0 = some cs := fun cs => rowOf_set_eq (rowOf_lt c2)
  have c4 : ∀ x, rowOf (h1.set (h.length + 2) x) (h.length + 1) 0 = some [.i 0, .b false, .i 0] := fun x => by rw [rowOf_set_ne (by omega)]; exact c1
  have c5 : ∀ x cs, rowOf ((h1.set (h.length + 2) x).set (h.length + 1) ⟨0, cs⟩) (h.length + 1) 0 = some cs := fun x cs => rowOf_set_eq (by rw [List.length_set]; exact rowOf_lt c1)
  have hl1 : ∀ x : Row, (h ++ [x]).length = h.length + 1 := fun x => by simp
  have hl2 : ∀ x y : Row, (h ++ [x, y]).length = h.length + 2 := fun x y => by simp
  have r0 : ∀ y, rowOf (h ++ [⟨0, [.i 6, .i t, .i a, .i o, .i n]⟩, y]) h.length 0 = some [.i 6, .i t, .i a, .i o, .i n] := fun y => rowOf_app_eq
  rw [evX_fun (m := c13) rfl _ _ _ _ H.ne0 rfl]
  simp -implicitDefEqProofs only [c13, b0, b1, b2, c0, c1, c2, c3, c4, c5, e1, hl1, hl2, r0, List.append_assoc, List.set_set, push_cast, Nat.reduceAdd, Nat.reduceMul, Nat.reduceSub, Nat.reduceLT, Nat.reduceLeDiff, Nat.reduceEqDiff, Nat.reducePow, Int.reduceToNat, Int.reduceLT, Int.reduceLE, Int.reduceNeg, Int.reduceEq, Int.reducePow, reduceIte, reduceCtorEq, Int.reduceMul, Int.reduceAdd, Int.reduceSub, Int.reduceMod, Int.reduceDiv, Int.reduceTDiv, Int.reduceTMod, iter_s]
  exact ⟨_, row', rfl, do_mem H F H1 (by omega) (by omega) (by omega) (by omega) _ _, hr, F.boxes (by omega) (by omega) _ _⟩
theorem dop6e (k : Nat) (h : List Row) (M : AM) (row : Tg → Nat) (H : MemAt h M row) (t a o n : Int) (hb : t < 0 ∨ (M.n : Int) ≤ t ∨ a < 0 ∨ (M.nl : Int) ≤ a) :
    ∃ h' row', evF cm (k + 130) 13 [.p (row .mem) 0 0, .agg [.i 6, .i t, .i a, .i o, .i n]] h 0 = some (.agg [.i (0), .b false, .i 2], h') ∧ MemAt h' (M) row' ∧ row' .mem = row .mem ∧ Frm (own M row) (own (M) row') h h' := by
  have Hb := H.app [⟨0, [.i 6, .i t, .i a, .i o, .i n]⟩, ⟨0, [.i 0, .b false, .i 0]⟩, ⟨0, [.i 0, .b false, .i 0]⟩]
  obtain ⟨b0, b1, b2⟩ := box3 h [.i 6, .i t, .i a, .i o, .i n] [.i 0, .b false, .i 0] [.i 0, .b false, .i 0]
  have bl : (h ++ [(⟨0, [.i 6, .i t, .i a, .i o, .i n]⟩ : Row), ⟨0, [.i 0, .b false, .i 0]⟩, ⟨0, [.i 0, .b false, .i 0]⟩]).length = h.length + 3 := by simp
  have e1 := lock_err (k + 125) _ M row Hb t a hb
  obtain ⟨h1, hh1⟩ : ∃ h1, h1 = h ++ [(⟨0, [.i 6, .i t, .i a, .i o, .i n]⟩ : Row), ⟨0, [.i 0, .b false, .i 0]⟩, ⟨0, [.i 0, .b false, .i 0]⟩] := ⟨_, rfl⟩
  have F : Frm (own M row) (own M row) (h ++ [(⟨0, [.i 6, .i t, .i a, .i o, .i n]⟩ : Row), ⟨0, [.i 0, .b false, .i 0]⟩, ⟨0, [.i 0, .b false, .i 0]⟩]) h1 := by rw [hh1]; exact Frm.refl _ _
  have H1 : MemAt h1 M row := by rw [hh1]; exact Hb
  have hr : row .mem = row .mem := rfl
  have e1' : ∀ x, x = h ++ [(⟨0, [.i 6, .i t, .i a, .i o, .i n]⟩ : Row), ⟨0, [.i 0, .b false, .i 0]⟩, ⟨0, [.i 0, .b false, .i 0]⟩] → x = h1 := fun x hx => hx.trans hh1.symm
  replace e1 := e1.trans (congrArg (fun z => some (_, z)) (e1' _ rfl))
  clear e1'
  have c0 := F.ext (own_lt H (Nat.le_refl _)) b0
  have c1 := F.ext (own_lt H (by omega)) b1
  have c2 := F.ext (own_lt H (by omega)) b2
  have c3 : ∀ cs, rowOf (h1.set (h.length + 2) ⟨0, cs⟩) (h.length + 2) 0 = some cs := fun cs => rowOf_set_eq (rowOf_lt c2)
  have c4 : ∀ x, rowOf (h1.set (h.length + 2) x) (h.length + 1) 0 = some [.i 0, .b false, .i 0] := fun x => by rw [rowOf_set_ne (by omega)]; exact c1
  have c5 : ∀ x cs, rowOf ((h1.set (h.length + 2) x).set (h.length + 1) ⟨0, cs⟩) (h.length + 1) 0 = some cs := fun x cs => rowOf_set_eq (by rw [List.length_set]; exact rowOf_lt c1)
  have hl1 : ∀ x : Row, (h ++ [x]).length = h.length + 1 := fun x => by simp
  have hl2 : ∀ x y : Row, (h ++ [x, y]).length = h.length + 2 := fun x y => by simp
  have r0 : ∀ y, rowOf (h ++ [⟨0, [.i 6, .i t, .i a, .i o, .i n]⟩, y]) h.length 0 = some [.i 6, .i t, .i a, .i o, .i n] := fun y => rowOf_app_eq
  rw [evX_fun (m := c13) rfl _ _ _ _ H.ne0 rfl]
  simp -implicitDefEqProofs only [c13, b0, b1, b2, c0, c1, c2, c3, c4, c5, e1, hl1, hl2, r0, List.append_assoc, List.set_set, push_cast, Nat.reduceAdd, Nat.reduceMul, Nat.reduceSub, Nat.reduceLT, Nat.reduceLeDiff, Nat.reduceEqDiff, Nat.reducePow, Int.reduceToNat, Int.reduceLT, Int.reduceLE, Int.reduceNeg, Int.reduceEq, Int.reducePow, reduceIte, reduceCtorEq, Int.reduceMul, Int.reduceAdd, Int.reduceSub, Int.reduceMod, Int.reduceDiv, Int.reduceTDiv, Int.reduceTMod, iter_s]
  exact ⟨_, row, rfl, do_mem H F H1 (by omega) (by omega) (by omega) (by omega) _ _, hr, F.boxes (by omega) (by omega) _ _⟩
theorem dop7 (k : Nat) (h : List Row) (M : AM) (row : Tg → Nat) (H : MemAt h M row) (t a : Nat) (o n : Int) (ht : t < M.n) (ha : a < M.nl) (hops : M.ops < 1000000000) (hcl : M.cl.length < 900000000) (hl : M.lo a = t) :
    ∃ h' row', evF cm (k + 130) 13 [.p (row .mem) 0 0, .agg [.i 7, .i t, .i a, .i o, .i n]] h 0 = some (.agg [.i (0), .b false, .i 0], h') ∧ MemAt h' (M.unlock t a) row' ∧ row' .mem = row .mem ∧ Frm (own M row) (own (M.unlock t a) row') h h' := by
  have Hb := H.app [⟨0, [.i 7, .i t, .i a, .i o, .i n]⟩, ⟨0, [.i 0, .b false, .i 0]⟩, ⟨0, [.i 0, .b false, .i 0]⟩]
  obtain ⟨b0, b1, b2⟩ := box3 h [.i 7, .i t, .i a, .i o, .i n] [.i 0, .b false, .i 0] [.i 0, .b false, .i 0]
  have bl : (h ++ [(⟨0, [.i 7, .i t, .i a, .i o, .i n]⟩ : Row), ⟨0, [.i 0, .b false, .i 0]⟩, ⟨0, [.i 0, .b false, .i 0]⟩]).length = h.length + 3 := by simp
  obtain ⟨h1, row', e1, H1, hr, F⟩ := unlock_ok (k + 19) _ M row Hb t a ht ha hl hops
  have c0 := F.ext (own_lt H (Nat.le_refl _)) b0
  have c1 := F.ext (own_lt H (by omega)) b1
  have c2 := F.ext (own_lt H (by omega)) b2
  have c3 : ∀ cs, rowOf (h1.set (h.length + 2) ⟨0, cs⟩) (h.length + 2) 0 = some cs := fun cs => rowOf_set_eq (rowOf_lt c2)
  have c4 : ∀ x, rowOf (h1.set (h.length + 2) x) (h.length + 1) 0 = some [.i 0, .b false, .i 0] := fun x => by rw [rowOf_set_ne (by omega)]; exact c1
  have c5 : ∀ x cs, rowOf ((h1.set (h.length + 2) x).set (h.length + 1) ⟨0, cs⟩) (h.length + 1) 0 = some cs := fun x cs => rowOf_set_eq (by rw [List.length_set]; exact rowOf_lt c1)
  have hl1 : ∀ x : Row, (h ++ [x]).length = h.length + 1 := fun x => by simp
  have hl2 : ∀ x y : Row, (h ++ [x, y]).length = h.length + 2 := fun x y => by simp
  have r0 : ∀ y, rowOf (h ++ [⟨0, [.i 7, .i t, .i a, .i o, .i n]⟩, y]) h.length 0 = some [.i 7, .i t, .i a, .i o, .i n] := fun y => rowOf_app_eq
  rw [evX_fun (m := c13) rfl _ _ _ _ H.ne0 rfl]
  simp -implicitDefEqProofs only [c13, b0, b1, b2, c0, c1, c2, c3, c4, c5, e1, hl1, hl2, r0, List.append_assoc, List.set_set, push_cast, Nat.reduceAdd, Nat.reduceMul, Nat.reduceSub, Nat.reduceLT, Nat.reduceLeDiff, Nat.reduceEqDiff, Nat.reducePow, Int.reduceToNat, Int.reduceLT, Int.reduceLE, Int.reduceNeg, Int.reduceEq, Int.reducePow, reduceIte, reduceCtorEq, Int.reduceMul, Int.reduceAdd, Int.reduceSub, Int.reduceMod, Int.reduceDiv, Int.reduceTDiv, Int.reduceTMod, iter_s]
  exact ⟨_, row', rfl, do_mem H F H1 (by omega) (by omega) (by omega) (by omega) _ _, hr, F.boxes (by omega) (by omega) _ _⟩
theorem dop7e (k : Nat) (h : List Row) (M : AM) (row : Tg → Nat) (H : MemAt h M row) (t a o n : Int) (hb : t < 0 ∨ (M.n : Int) ≤ t ∨ a < 0 ∨ (M.nl : Int) ≤ a ∨ M.lo a.toNat ≠ t) :
    ∃ h' row', evF cm (k + 130) 13 [.p (row .mem) 0 0, .agg [.i 7, .i t, .i a, .i o, .i n]] h 0 = some (.agg [.i (0), .b false, .i 2], h') ∧ MemAt h' (M) row' ∧ row' .mem = row .mem ∧ Frm (own M row) (own (M) row') h h' := by
  have Hb := H.app [⟨0, [.i 7, .i t, .i a, .i o, .i n]⟩, ⟨0, [.i 0, .b false, .i 0]⟩, ⟨0, [.i 0, .b false, .i 0]⟩]
  obtain ⟨b0, b1, b2⟩ := box3 h [.i 7, .i t, .i a, .i o, .i n] [.i 0, .b false, .i 0] [.i 0, .b false, .i 0]
  have bl : (h ++ [(⟨0, [.i 7, .i t, .i a, .i o, .i n]⟩ : Row), ⟨0, [.i 0, .b false, .i 0]⟩, ⟨0, [.i 0, .b false, .i 0]⟩]).length = h.length + 3 := by simp
  have e1 := unlock_err (k + 125) _ M row Hb t a hb
  obtain ⟨h1, hh1⟩ : ∃ h1, h1 = h ++ [(⟨0, [.i 7, .i t, .i a, .i o, .i n]⟩ : Row), ⟨0, [.i 0, .b false, .i 0]⟩, ⟨0, [.i 0, .b false, .i 0]⟩] := ⟨_, rfl⟩
  have F : Frm (own M row) (own M row) (h ++ [(⟨0, [.i 7, .i t, .i a, .i o, .i n]⟩ : Row), ⟨0, [.i 0, .b false, .i 0]⟩, ⟨0, [.i 0, .b false, .i 0]⟩]) h1 := by rw [hh1]; exact Frm.refl _ _
  have H1 : MemAt h1 M row := by rw [hh1]; exact Hb
  have hr : row .mem = row .mem := rfl
  have e1' : ∀ x, x = h ++ [(⟨0, [.i 7, .i t, .i a, .i o, .i n]⟩ : Row), ⟨0, [.i 0, .b false, .i 0]⟩, ⟨0, [.i 0, .b false, .i 0]⟩] → x = h1 := fun x hx => hx.trans hh1.symm
  replace e1 := e1.trans (congrArg (fun z => some (_, z)) (e1' _ rfl))
  clear e1'
  have c0 := F.ext (own_lt H (Nat.le_refl _)) b0
  have c1 := F.ext (own_lt H (by omega)) b1
  have c2 := F.ext (own_lt H (by omega)) b2
  have c3 : ∀ cs, rowOf (h1.set (h.length + 2) ⟨0, cs⟩) (h.length + 2) 0 = some cs := fun cs => rowOf_set_eq (rowOf_lt c2)
  have c4 : ∀ x, rowOf (h1.set (h.length + 2) x) (h.length + 1) 0 = some [.i 0, .b false, .i 0] := fun x => by rw [rowOf_set_ne (by omega)]; exact c1
  have c5 : ∀ x cs, rowOf ((h1.set (h.length + 2) x).set (h.length + 1) ⟨0, cs⟩) (h.length + 1) 0 = some cs := fun x cs => rowOf_set_eq (by rw [List.length_set]; exact rowOf_lt c1)
  have hl1 : ∀ x : Row, (h ++ [x]).length = h.length + 1 := fun x => by simp
  have hl2 : ∀ x y : Row, (h ++ [x, y]).length = h.length + 2 := fun x y => by simp
  have r0 : ∀ y, rowOf (h ++ [⟨0, [.i 7, .i t, .i a, .i o, .i n]⟩, y]) h.length 0 = some [.i 7, .i t, .i a, .i o, .i n] := fun y => rowOf_app_eq
  rw [evX_fun (m := c13) rfl _ _ _ _ H.ne0 rfl]
  simp -implicitDefEqProofs only [c13, b0, b1, b2, c0, c1, c2, c3, c4, c5, e1, hl1, hl2, r0, List.append_assoc, List.set_set, push_cast, Nat.reduceAdd, Nat.reduceMul, Nat.reduceSub, Nat.reduceLT, Nat.reduceLeDiff, Nat.reduceEqDiff, Nat.reducePow, Int.reduceToNat, Int.reduceLT, Int.reduceLE, Int.reduceNeg, Int.reduceEq, Int.reducePow, reduceIte, reduceCtorEq, Int.reduceMul, Int.reduceAdd, Int.reduceSub, Int.reduceMod, Int.reduceDiv, Int.reduceTDiv, Int.reduceTMod, iter_s]
  exact ⟨_, row, rfl, do_mem H F H1 (by omega) (by omega) (by omega) (by omega) _ _, hr, F.boxes (by omega) (by omega) _ _⟩
end Go.Proofs.Ytlbcandecifkcaa
