/- An operation, done to a memory, tells what all that was done tells. -/
import Derived.Test.YtlbcandecifkcaaT30
set_option linter.unusedSimpArgs false
set_option linter.unusedVariables false
set_option maxRecDepth 100000
set_option maxHeartbeats 16000000
namespace Go.Proofs.Ytlbcandecifkcaa
open Go
/-- What holds between two operations. -/
structure Inv30 (h : List Row) (N na np nl r7 : Nat) (M : AM) (row : Tg → Nat) (L : List Dn) (LS CS : LV) (V : Nat → Nat → Int) : Prop where
  mem : MemAt h M row
  n : M.n = N ∧ M.na = na ∧ M.np = np ∧ M.nl = nl
  rel : MRel L M V
  all : HAll h (fun k => ¬ own M row k ∧ k ≠ r7) L M.cl LS CS
  box : rowOf h r7 0 = some [.i N, .i na, .i np, .i nl, LS, CS]
  nb : ¬ own M row r7
theorem Inv30.ext {h h' : List Row} {N na np nl r7 : Nat} {M : AM} {row : Tg → Nat} {L : List Dn} {LS CS : LV} {V : Nat → Nat → Int} (I : Inv30 h N na np nl r7 M row L LS CS V) (x : Ext h h') : Inv30 h' N na np nl r7 M row L LS CS V :=
  ⟨x.mem I.mem, I.n, I.rel, I.all.ext x, x.row I.box, I.nb⟩
theorem fits_spec {N na np nl : Nat} {L : List Dn} {kd t a : Int} (h : fitsB N na np nl L kd t a = true) : (0 ≤ kd ∧ kd ≤ 7) ∧ (0 ≤ t ∧ t < N) ∧ (0 ≤ a ∧ a < manyI na np nl kd) ∧ (kd = 7 → owner L a = t) := by
  simp only [fitsB, Bool.and_eq_true, Bool.not_eq_true', Bool.or_eq_false_iff, Bool.or_eq_true, decide_eq_true_eq, decide_eq_false_iff_not] at h
  obtain ⟨⟨⟨⟨⟨⟨h1, h2⟩, h3⟩, h4⟩, h5⟩, h6⟩, h7⟩ := h
  exact ⟨by omega, by omega, by omega, fun e => by omega⟩
theorem fits_not {N na np nl : Nat} {L : List Dn} {kd t a : Int} (h : fitsB N na np nl L kd t a = false) (hk : 0 ≤ kd ∧ kd ≤ 7) : t < 0 ∨ (N : Int) ≤ t ∨ a < 0 ∨ manyI na np nl kd ≤ a ∨ (kd = 7 ∧ owner L a ≠ t) := by
  by_cases c : t < 0 ∨ (N : Int) ≤ t ∨ a < 0 ∨ manyI na np nl kd ≤ a ∨ (kd = 7 ∧ owner L a ≠ t)
  · exact c
  · exfalso
    have : fitsB N na np nl L kd t a = true := by
      simp only [fitsB, Bool.and_eq_true, Bool.not_eq_true', Bool.or_eq_false_iff, Bool.or_eq_true, decide_eq_true_eq, decide_eq_false_iff_not]
      refine ⟨⟨⟨⟨⟨⟨?_, ?_⟩, ?_⟩, ?_⟩, ?_⟩, ?_⟩, ?_⟩ <;> omega
    rw [this] at h; cases h
theorem many_places {M : AM} {N na np nl : Nat} (hn : M.n = N ∧ M.na = na ∧ M.np = np ∧ M.nl = nl) (kd : Int) : manyI na np nl kd = (placesM M kd : Int) := by
  obtain ⟨_, rfl, rfl, rfl⟩ := hn
  unfold manyI placesM
  split
  · rfl
  · split <;> rfl
section
variable {h : List Row} {N na np nl r7 : Nat} {M : AM} {row : Tg → Nat} {L : List Dn} {LS CS : LV} {V : Nat → Nat → Int}
theorem do_not (k : Nat) (I : Inv30 h N na np nl r7 M row L LS CS V) (kd t a o n : Int) (hk : 0 ≤ kd ∧ kd ≤ 7) (hf : fitsB N na np nl L kd t a = false) :
    ∃ h' row', evF cm (k + 130) 13 [.p (row .mem) 0 0, .agg [.i kd, .i t, .i a, .i o, .i n]] h 0 = some (.agg [.i 0, .b false, .i 2], h') ∧ MemAt h' M row' ∧ row' .mem = row .mem ∧ Frm (own M row) (own M row') h h' := by
  obtain ⟨n1, n2, n3, n4⟩ := I.n
  have hb := fits_not hf hk
  have hm := many_places I.n kd
  rw [hm, ← n1] at hb
  have ho : 0 ≤ a → a < M.nl → owner L a = M.lo a.toNat := fun h1 h2 => by
    have := rel_owner I.rel (a := a.toNat) (by omega)
    rw [show ((a.toNat : Nat) : Int) = a by omega] at this; exact this
  rcases (show kd = 0 ∨ kd = 1 ∨ kd = 2 ∨ kd = 3 ∨ kd = 4 ∨ kd = 5 ∨ kd = 6 ∨ kd = 7 by omega) with rfl | rfl | rfl | rfl | rfl | rfl | rfl | rfl
  · exact dop0e k h M row I.mem t a o n (by simp [placesM] at hb; omega)
  · exact dop1e k h M row I.mem t a o n (by simp [placesM] at hb; omega)
  · exact dop2e k h M row I.mem t a o n (by simp [placesM] at hb; omega)
  · exact dop3e k h M row I.mem t a o n (by simp [placesM] at hb; omega)
  · exact dop4e k h M row I.mem t a o n (by simp [placesM] at hb; omega)
  · exact dop5e k h M row I.mem t a o n (by simp [placesM] at hb; omega)
  · exact dop6e k h M row I.mem t a o n (by simp [placesM] at hb; omega)
  · refine dop7e k h M row I.mem t a o n ?_
    simp [placesM] at hb
    by_cases h1 : 0 ≤ a
    · by_cases h2 : a < M.nl
      · have := ho h1 h2
        rw [this] at hb; omega
      · omega
    · omega
theorem do_fits (k : Nat) (I : Inv30 h N na np nl r7 M row L LS CS V) (hL : L.length < 1000) (hclen : M.cl.length < 900000000) (kd t a o n : Int) (hf : fitsB N na np nl L kd t a = true) :
    ∃ h' row' V', evF cm (k + 130) 13 [.p (row .mem) 0 0, .agg [.i kd, .i t, .i a, .i o, .i n]] h 0 = some (.agg [.i (if kd = 0 ∨ kd = 3 then (doD L kd t a o n).v else 0), .b (doD L kd t a o n).is, .i 0], h') ∧
      MemAt h' (doM M kd t.toNat a.toNat o n) row' ∧ row' .mem = row .mem ∧ Frm (own M row) (own (doM M kd t.toNat a.toNat o n) row') h h' ∧ MRel (L ++ [doD L kd t a o n]) (doM M kd t.toNat a.toNat o n) V' ∧
      (doM M kd t.toNat a.toNat o n).cl = M.cl ++ (if kd = 4 ∨ kd = 5 then hcl N L (doD L kd t a o n) else []) ∧ (doM M kd t.toNat a.toNat o n).n = N ∧ (doM M kd t.toNat a.toNat o n).na = na ∧ (doM M kd t.toNat a.toNat o n).np = np ∧ (doM M kd t.toNat a.toNat o n).nl = nl := by
  obtain ⟨n1, n2, n3, n4⟩ := I.n
  obtain ⟨hk, ht, ha, ho⟩ := fits_spec hf
  obtain ⟨t', rfl⟩ : ∃ t' : Nat, t = t' := ⟨t.toNat, by omega⟩
  obtain ⟨a', rfl⟩ : ∃ a' : Nat, a = a' := ⟨a.toNat, by omega⟩
  rw [Int.toNat_natCast, Int.toNat_natCast]
  have hm := many_places I.n kd
  rw [hm] at ha
  have ht' : t' < M.n := by omega
  have ha' : a' < placesM M kd := by omega
  have hops : M.ops < 1000000000 := by have := I.rel.ops; omega
  have hlo : kd = 7 → M.lo a' = t' := fun e => by
    subst e
    have := rel_owner I.rel (a := a') (by simpa [placesM] using ha')
    rw [← this]; exact ho rfl
  obtain ⟨R, q0, q2, q3, q6, qc⟩ := rel_step I.rel kd t' a' o n hk ht' rfl ha' hlo
  have sz : (doM M kd t' a' o n).n = M.n ∧ (doM M kd t' a' o n).na = M.na ∧ (doM M kd t' a' o n).np = M.np ∧ (doM M kd t' a' o n).nl = M.nl := by
    unfold doM AM.swap AM.lock
    (repeat' split) <;> exact ⟨rfl, rfl, rfl, rfl⟩
  rw [n1] at qc
  have fin : ∀ (nV : Int) (isV : Bool) (M' : AM), M' = doM M kd t' a' o n → (if kd = 0 ∨ kd = 3 then (doD L kd t' a' o n).v else 0) = nV → (doD L kd t' a' o n).is = isV →
      (∃ h' row', evF cm (k + 130) 13 [.p (row .mem) 0 0, .agg [.i kd, .i t', .i a', .i o, .i n]] h 0 = some (.agg [.i nV, .b isV, .i 0], h') ∧ MemAt h' M' row' ∧ row' .mem = row .mem ∧ Frm (own M row) (own M' row') h h') →
      ∃ h' row' V', evF cm (k + 130) 13 [.p (row .mem) 0 0, .agg [.i kd, .i t', .i a', .i o, .i n]] h 0 = some (.agg [.i (if kd = 0 ∨ kd = 3 then (doD L kd t' a' o n).v else 0), .b (doD L kd t' a' o n).is, .i 0], h') ∧
      MemAt h' (doM M kd t' a' o n) row' ∧ row' .mem = row .mem ∧ Frm (own M row) (own (doM M kd t' a' o n) row') h h' ∧ MRel (L ++ [doD L kd t' a' o n]) (doM M kd t' a' o n) V' ∧
      (doM M kd t' a' o n).cl = M.cl ++ (if kd = 4 ∨ kd = 5 then hcl N L (doD L kd t' a' o n) else []) ∧ (doM M kd t' a' o n).n = N ∧ (doM M kd t' a' o n).na = na ∧ (doM M kd t' a' o n).np = np ∧ (doM M kd t' a' o n).nl = nl := by
    rintro nV isV M' rfl h1 h2 ⟨h', row', e, H', hr, F⟩
    rw [h1, h2]
    exact ⟨h', row', _, e, H', hr, F, R, qc, sz.1.trans n1, sz.2.1.trans n2, sz.2.2.1.trans n3, sz.2.2.2.trans n4⟩
  have isf : kd ≠ 2 → kd ≠ 6 → (doD L kd t' a' o n).is = false := fun h1 h2 => by simp [doD, h1, h2]
  rcases (show kd = 0 ∨ kd = 1 ∨ kd = 2 ∨ kd = 3 ∨ kd = 4 ∨ kd = 5 ∨ kd = 6 ∨ kd = 7 by omega) with rfl | rfl | rfl | rfl | rfl | rfl | rfl | rfl
  · exact fin (M.av a') false (M.load t' a') (by simp [doM]) (by rw [if_pos (by omega)]; exact q0 rfl) (isf (by omega) (by omega)) (dop0 k h M row I.mem t' a' o n ht' (by simpa [placesM] using ha') hops hclen)
  · exact fin 0 false (M.store t' a' n) (by simp [doM]) (by rw [if_neg (by omega)]) (isf (by omega) (by omega)) (dop1 k h M row I.mem t' a' o n ht' (by simpa [placesM] using ha') hops hclen)
  · exact fin 0 (decide (M.av a' = o)) (M.swap t' a' o n) (by simp [doM]) (by rw [if_neg (by omega)]) (q2 rfl) (dop2 k h M row I.mem t' a' o n ht' (by simpa [placesM] using ha') hops hclen)
  · exact fin (IntKind.i64.wrap (M.av a' + n)) false (M.add t' a' (IntKind.i64.wrap (M.av a' + n))) (by rw [wrapI_eq]; simp [doM]) (by rw [if_pos (by omega), wrapI_eq]; exact q3 rfl) (isf (by omega) (by omega)) (dop3 k h M row I.mem t' a' o n ht' (by simpa [placesM] using ha') hops hclen)
  · exact fin 0 false (M.access t' a' false) (by simp [doM]) (by rw [if_neg (by omega)]) (isf (by omega) (by omega)) (dop4 k h M row I.mem t' a' o n ht' (by simpa [placesM] using ha') hops hclen)
  · exact fin 0 false (M.access t' a' true) (by simp [doM]) (by rw [if_neg (by omega)]) (isf (by omega) (by omega)) (dop5 k h M row I.mem t' a' o n ht' (by simpa [placesM] using ha') hops hclen)
  · exact fin 0 (decide (M.lo a' = -1)) (M.lock t' a') (by simp [doM]) (by rw [if_neg (by omega)]) (q6 rfl) (dop6 k h M row I.mem t' a' o n ht' (by simpa [placesM] using ha') hops hclen)
  · exact fin 0 false (M.unlock t' a') (by simp [doM]) (by rw [if_neg (by omega)]) (isf (by omega) (by omega)) (dop7 k h M row I.mem t' a' o n ht' (by simpa [placesM] using ha') hops hclen (hlo rfl))
end
end Go.Proofs.Ytlbcandecifkcaa
