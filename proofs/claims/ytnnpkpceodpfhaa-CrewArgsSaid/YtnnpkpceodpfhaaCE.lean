/- A frame is handed in, as the evaluator answers. -/
import Derived.Test.YtnnpkpceodpfhaaCD
set_option linter.unusedSimpArgs false
set_option linter.unusedVariables false
set_option linter.unusedSectionVars false
set_option maxRecDepth 100000
set_option maxHeartbeats 16000000
namespace Go.Proofs.Ytnnpkpceodpfhaa
open Go
theorem iso_P {k : Nat} {h : List Row} {g : FuncId} {ar : List LV} {r : LV} (hc : closedL ar = true) (e : evP (evF cm k) g ar = some r) : isoE (evF cm k) h g ar = some (r, []) := by
  unfold evP at e
  rw [isoE, if_pos hc]
  cases hq : evF cm k g ar [] 0 with
  | none => rw [hq] at e; cases e
  | some x =>
    obtain ⟨r', h'⟩ := x
    rw [hq] at e
    simp only at e ⊢
    split at e
    · rename_i hf
      simp only [Option.some.injEq] at e
      rw [if_pos hf, e]
    · cases e
def fg6 : List Nat := [34, 33, 5, 4, 32, 31, 30, 29, 28, 27, 26, 25, 24, 23, 22, 21, 20, 19]
theorem tl53 {T : List LV} (h : T.length = 53) : T = [getT T 0, getT T 1, getT T 2, getT T 3, getT T 4, getT T 5, getT T 6, getT T 7, getT T 8, getT T 9, getT T 10, getT T 11, getT T 12, getT T 13, getT T 14, getT T 15, getT T 16, getT T 17, getT T 18, getT T 19, getT T 20, getT T 21, getT T 22, getT T 23, getT T 24, getT T 25, getT T 26, getT T 27, getT T 28, getT T 29, getT T 30, getT T 31, getT T 32, getT T 33, getT T 34, getT T 35, getT T 36, getT T 37, getT T 38, getT T 39, getT T 40, getT T 41, getT T 42, getT T 43, getT T 44, getT T 45, getT T 46, getT T 47, getT T 48, getT T 49, getT T 50, getT T 51, getT T 52] := tlT h
def lastA (l : List Int) (i : Nat) : Int := if i = 0 then -1 else l.getD (i - 1) 0
section
variable {h : List Row} {M : AM} {row : Tg → Nat} {k t rc rk w : Nat} {ds fr : LV} {wr : Nat → Nat} (C : CF h M row k t rc rk ds fr wr w) {l : List Int} {S : LV} (hS : SlI l S)
def S6 (h : List Row) (rc : Nat) (l : List Int) (S : LV) (t : Nat) (i : Nat) (s : St) : Prop := ∃ T, s = (T, h) ∧ T.length = 53 ∧ getT T 0 = .p rc 0 0 ∧ getT T 1 = S ∧ getT T 16 = S ∧ getT T 17 = .i l.length ∧ getT T 18 = .i i ∧ getT T 6 = .i (lastA l i) ∧ ∀ j, j < i → ¬ badJ t l j
include C hS
theorem frame_round (K : Nat) (i : Nat) (s : St) (hl : l.length ≤ 9223372036854775807) (hi : i < l.length) (hs : S6 h rc l S t i s) :
    (∃ s', evCode (evF cm K) K 0 c6b0 (cleanN fg6 s) = some (.nrm, s') ∧ S6 h rc l S t (i + 1) s') ∨ (∃ s', evCode (evF cm K) K 0 c6b0 (cleanN fg6 s) = some (.ret, s') ∧ (∃ T, s' = (T, h) ∧ T.length = 53 ∧ getT T 4 = .v (.pointer none) ∧ getT T 5 = .i 2) ∧ ¬ good t l) := by
  obtain ⟨T, rfl, hT, t0, t1, t16, t17, t18, t6, hg⟩ := hs
  rw [tl53 hT]
  have hcr := C.crew
  unfold crewC at hcr
  have g1 : (i : Int) < (l.length : Int) := by omega
  have w1 : IntKind.i64.wrap ((i : Int) + 1) = (i : Int) + 1 := by rw [w64 _ (by omega) (by omega)]
  have hx := hS.ix i (by omega) g1
  rw [Int.toNat_natCast] at hx
  have hr := rd_ints l i hi
  have hr' := rd_ints' l i hi
  have nb : badJ t l i → ¬ good t l := fun hb hh => hh i hi hb
  have hlast : l.getD i 0 ≤ lastA l i → badJ t l i := fun h => by
    unfold lastA at h
    unfold badJ
    split at h
    · exact .inl (by omega)
    · exact .inr (.inr ⟨by omega, h⟩)
  have hlast' : ¬ l.getD i 0 ≤ lastA l i → l.getD i 0 < t → ¬ badJ t l i := fun h h2 hb => by
    unfold lastA at h
    unfold badJ at hb
    split at h
    · omega
    · have h3 := hg (i - 1) (by omega)
      unfold badJ at h3
      omega
  have hnew : lastA l (i + 1) = l.getD i 0 := by unfold lastA; rw [if_neg (by omega)]; rfl
  by_cases b1 : l.getD i 0 ≤ lastA l i
  · refine .inr ?_
    have hng := nb (hlast b1)
    generalize l.getD i 0 = v at *
    generalize lastA l i = u at *
    simp -implicitDefEqProofs only [c6b0, fg6, t0, t1, t16, t17, t18, t6, hS.len, hx, hr, hr', g1, b1, push_cast, Nat.reduceAdd, Nat.reduceMul, Nat.reduceSub, Nat.reduceLT, Nat.reduceLeDiff, Nat.reduceEqDiff, Nat.reducePow, Int.reduceToNat, Int.reduceLT, Int.reduceLE, Int.reduceNeg, Int.reduceEq, Int.reducePow, reduceIte, reduceCtorEq, Int.reduceMul, Int.reduceAdd, Int.reduceSub, Int.reduceMod, Int.reduceDiv, Int.reduceTDiv, Int.reduceTMod, iter_s]
    exact ⟨_, rfl, ⟨_, rfl, rfl, rfl, rfl⟩, hng⟩
  by_cases b2 : (t : Int) ≤ l.getD i 0
  · refine .inr ?_
    have hng := nb (.inr (.inl b2))
    generalize l.getD i 0 = v at *
    generalize lastA l i = u at *
    simp -implicitDefEqProofs only [c6b0, fg6, t0, t1, t16, t17, t18, t6, hS.len, hx, hr, hr', hcr, g1, b1, b2, push_cast, Nat.reduceAdd, Nat.reduceMul, Nat.reduceSub, Nat.reduceLT, Nat.reduceLeDiff, Nat.reduceEqDiff, Nat.reducePow, Int.reduceToNat, Int.reduceLT, Int.reduceLE, Int.reduceNeg, Int.reduceEq, Int.reducePow, reduceIte, reduceCtorEq, Int.reduceMul, Int.reduceAdd, Int.reduceSub, Int.reduceMod, Int.reduceDiv, Int.reduceTDiv, Int.reduceTMod, iter_s]
    exact ⟨_, rfl, ⟨_, rfl, rfl, rfl, rfl⟩, hng⟩
  refine .inl ?_
  have hng := hlast' b1 (by omega)
  generalize l.getD i 0 = v at *
  generalize lastA l i = u' at *
  simp -implicitDefEqProofs only [c6b0, fg6, t0, t1, t16, t17, t18, t6, hS.len, hx, hr, hr', hcr, g1, b1, b2, w1, push_cast, Nat.reduceAdd, Nat.reduceMul, Nat.reduceSub, Nat.reduceLT, Nat.reduceLeDiff, Nat.reduceEqDiff, Nat.reducePow, Int.reduceToNat, Int.reduceLT, Int.reduceLE, Int.reduceNeg, Int.reduceEq, Int.reducePow, reduceIte, reduceCtorEq, Int.reduceMul, Int.reduceAdd, Int.reduceSub, Int.reduceMod, Int.reduceDiv, Int.reduceTDiv, Int.reduceTMod, iter_s]
  refine ⟨_, rfl, _, rfl, rfl, rfl, rfl, rfl, rfl, rfl, by rw [hnew]; rfl, ?_⟩
  intro j hj
  by_cases h' : j < i
  · exact hg j h'
  · have : j = i := by omega
    subst this
    exact hng
theorem frame_last (K : Nat) (s : St) (hs : S6 h rc l S t l.length s) :
    ∃ s', evCode (evF cm K) K 0 c6b0 (cleanN fg6 s) = some (.exit 1, s') ∧ (∃ T, s' = (T, h) ∧ T.length = 53 ∧ getT T 0 = .p rc 0 0 ∧ getT T 1 = S) ∧ good t l := by
  obtain ⟨T, rfl, hT, t0, t1, t16, t17, t18, t6, hg⟩ := hs
  rw [tl53 hT]
  have g1 : ¬ (l.length : Int) < (l.length : Int) := by omega
  simp -implicitDefEqProofs only [c6b0, fg6, t0, t1, t16, t17, t18, t6, hS.len, g1, push_cast, Nat.reduceAdd, Nat.reduceMul, Nat.reduceSub, Nat.reduceLT, Nat.reduceLeDiff, Nat.reduceEqDiff, Nat.reducePow, Int.reduceToNat, Int.reduceLT, Int.reduceLE, Int.reduceNeg, Int.reduceEq, Int.reducePow, reduceIte, reduceCtorEq, Int.reduceMul, Int.reduceAdd, Int.reduceSub, Int.reduceMod, Int.reduceDiv, Int.reduceTDiv, Int.reduceTMod, iter_s]
  exact ⟨_, rfl, ⟨_, rfl, rfl, rfl, rfl⟩, hg⟩
theorem frame_loop (K : Nat) (hl : l.length ≤ 9223372036854775807) (s : St) (hs : S6 h rc l S t 0 s) :
    (∃ s', iter (evCode (evF cm (K + l.length + 1)) (K + l.length + 1) 0 c6b0) (cleanN fg6) (K + l.length + 1) s = some (.exit 1, s') ∧ (∃ T, s' = (T, h) ∧ T.length = 53 ∧ getT T 0 = .p rc 0 0 ∧ getT T 1 = S) ∧ good t l) ∨ (∃ s', iter (evCode (evF cm (K + l.length + 1)) (K + l.length + 1) 0 c6b0) (cleanN fg6) (K + l.length + 1) s = some (.ret, s') ∧ (∃ T, s' = (T, h) ∧ T.length = 53 ∧ getT T 4 = .v (.pointer none) ∧ getT T 5 = .i 2) ∧ ¬ good t l) :=
  @iter_until (evCode (evF cm (K + l.length + 1)) (K + l.length + 1) 0 c6b0) (cleanN fg6) (S6 h rc l S t) (fun s' => (∃ T, s' = (T, h) ∧ T.length = 53 ∧ getT T 0 = .p rc 0 0 ∧ getT T 1 = S) ∧ good t l) (fun s' => (∃ T, s' = (T, h) ∧ T.length = 53 ∧ getT T 4 = .v (.pointer none) ∧ getT T 5 = .i 2) ∧ ¬ good t l) l.length 1
      (fun i s hi hs => frame_round C hS _ i s hl hi hs |>.elim .inl fun h => .inr h) (fun s hs => frame_last C hS _ s hs) l.length 0 s (K + l.length + 1) (by omega) (by omega) hs
theorem frame_no (K : Nat) (hl : l.length ≤ 9223372036854775807) (hb : ¬ (0 < l.length ∧ good t l)) : evF cm (K + l.length + 2) 6 [.p rc 0 0, S] h 0 = some (.tup [.v (.pointer none), .i 2], h) := by
  rw [evX_fun (m := c6) rfl _ _ _ _ C.ne0 rfl]
  by_cases h0 : l.length = 0
  · have e0 : (l.length : Int) = 0 := by omega
    simp -implicitDefEqProofs only [c6, hS.len, hS.cells, e0, push_cast, Nat.reduceAdd, Nat.reduceMul, Nat.reduceSub, Nat.reduceLT, Nat.reduceLeDiff, Nat.reduceEqDiff, Nat.reducePow, Int.reduceToNat, Int.reduceLT, Int.reduceLE, Int.reduceNeg, Int.reduceEq, Int.reducePow, reduceIte, reduceCtorEq, Int.reduceMul, Int.reduceAdd, Int.reduceSub, Int.reduceMod, Int.reduceDiv, Int.reduceTDiv, Int.reduceTMod]
  · have e0 : ¬ (l.length : Int) = 0 := by omega
    have key : ∀ s I, iter (evCode (evF cm (K + l.length + 1)) (K + l.length + 1) 0 c6b0) (cleanN fg6) (K + l.length + 1) s = I → S6 h rc l S t 0 s → (∃ s', I = some (.exit 1, s') ∧ (∃ T, s' = (T, h) ∧ T.length = 53 ∧ getT T 0 = .p rc 0 0 ∧ getT T 1 = S) ∧ good t l) ∨ (∃ s', I = some (.ret, s') ∧ (∃ T, s' = (T, h) ∧ T.length = 53 ∧ getT T 4 = .v (.pointer none) ∧ getT T 5 = .i 2) ∧ ¬ good t l) := by
      intro s I hI hs
      rw [← hI]
      exact frame_loop C hS K hl s hs
    simp -implicitDefEqProofs only [c6, hS.len, hS.cells, e0, push_cast, Nat.reduceAdd, Nat.reduceMul, Nat.reduceSub, Nat.reduceLT, Nat.reduceLeDiff, Nat.reduceEqDiff, Nat.reducePow, Int.reduceToNat, Int.reduceLT, Int.reduceLE, Int.reduceNeg, Int.reduceEq, Int.reducePow, reduceIte, reduceCtorEq, Int.reduceMul, Int.reduceAdd, Int.reduceSub, Int.reduceMod, Int.reduceDiv, Int.reduceTDiv, Int.reduceTMod]
    generalize hI : iter _ _ _ _ = I
    rcases key _ _ hI ⟨_, rfl, rfl, rfl, rfl, rfl, rfl, rfl, rfl, fun j hj => by omega⟩ with ⟨s', hI2, _, hg⟩ | ⟨s', hI2, ⟨T, rfl, hT, t4, t5⟩, hg⟩
    · exact absurd ⟨by omega, hg⟩ hb
    · subst hI2
      rw [tl53 hT]
      simp -implicitDefEqProofs only [t4, t5, push_cast, Nat.reduceAdd, Nat.reduceMul, Nat.reduceSub, Nat.reduceLT, Nat.reduceLeDiff, Nat.reduceEqDiff, Nat.reducePow, Int.reduceToNat, Int.reduceLT, Int.reduceLE, Int.reduceNeg, Int.reduceEq, Int.reducePow, reduceIte, reduceCtorEq, Int.reduceMul, Int.reduceAdd, Int.reduceSub, Int.reduceMod, Int.reduceDiv, Int.reduceTDiv, Int.reduceTMod]
end
theorem frame_yes {h : List Row} {M : AM} {row : Tg → Nat} {k t rc rk w : Nat} {ds : LV} {wr : Nat → Nat} (C : CF h M row k t rc rk ds .nils wr w) (l : List Int) (b : Bool) (K : Nat) (ht : t ≤ 256) (hg : 0 < l.length ∧ good t l) :
    ∃ h' fr p, evF cm (K + l.length + 10) 6 [.p rc 0 0, .im (l.map LV.i) l.length b] h 0 = some (.tup [.p p 0 0, .i 0], h') ∧ CF h' M row k t rc rk ds fr wr w ∧ rowOf h' 0 0 = rowOf h 0 0 := by
  have hS := slI_im l b
  have hl := good_len hg.2
  have h1 := C.crew
  unfold crewC at h1
  have lc := C.lc
  have ec := fun K => eclone K l b hg.1 (by omega)
  have e0 : ¬ (l.length : Int) = 0 := by omega
  obtain ⟨H2, hH2⟩ : ∃ H2, (h ++ [(⟨0, [.im (l.map LV.i) l.length false]⟩ : Row)]).set rc ⟨0, [.p 5 0 0, .p 1 0 0, .i k, .i t, .i ((k : Int) + 1), ds, .sl rk w 0 (w + 1) 1 (w + 1), .sl h.length 0 0 1 1 1, .v .nilFunc]⟩ = H2 := ⟨_, rfl⟩
  have hh : ∀ j, j ≠ rc → j < h.length → H2[j]? = h[j]? := fun j hj hl => by
    rw [← hH2, List.getElem?_set_ne (Ne.symm hj), List.getElem?_append_left hl]
  have hn2 : H2.isEmpty = false := by
    have : 0 < H2.length := by rw [← hH2]; simp
    cases H2 with
    | nil => simp at this
    | cons _ _ => rfl
  have f1 : ∀ x : Row, rowOf (h ++ [x]) rc 0 = rowOf h rc 0 := fun x => rowOf_app_lt lc
  have f2 : rowOf H2 rc 0 = some [.p 5 0 0, .p 1 0 0, .i k, .i t, .i ((k : Int) + 1), ds, .sl rk w 0 (w + 1) 1 (w + 1), .sl h.length 0 0 1 1 1, .v .nilFunc] := by rw [← hH2]; exact rowOf_set_eq (by simp; omega)
  obtain ⟨r, ep⟩ : ∃ r, evF cm (K + l.length + 9) 24 [.p 1 0 0, .i l.length] H2 0 = some (.p H2.length 0 0, H2 ++ [r]) := epublish (K + l.length + 6) H2 hn2 l.length
  have key : ∀ s I, iter (evCode (evF cm (K + l.length + 9)) (K + l.length + 9) 0 c6b0) (cleanN fg6) (K + l.length + 9) s = I → S6 h rc l (.im (l.map LV.i) l.length b) t 0 s → (∃ T, I = some (.exit 1, (T, h)) ∧ T.length = 53 ∧ getT T 0 = .p rc 0 0 ∧ getT T 1 = .im (l.map LV.i) l.length b) := by
    intro s I hI hs
    have := frame_loop C hS (K + 8) (by omega) s hs
    rw [show K + 8 + l.length + 1 = K + l.length + 9 by omega] at this
    rcases this with ⟨s', h1, ⟨T, rfl, h2⟩, _⟩ | ⟨s', _, _, hh⟩
    · exact ⟨T, hI.symm.trans h1, h2⟩
    · exact absurd hg.2 hh
  have hlen := hS.len
  have hcells := hS.cells
  have hcl := hS.cl
  have hat := hS.atm
  have hsz := slI_im l false
  have zcells := hsz.cells
  have zcl := hsz.cl
  have zat := hsz.atm
  have zl : closedL [.im (l.map LV.i) l.length b] = true := by simp only [closedL, hcl, Bool.and_true]
  have ei := fun K h => iso_P (h := h) zl (ec K)
  generalize hZ : LV.im (l.map LV.i) l.length false = Z at *
  generalize hX : LV.im (l.map LV.i) l.length b = X at *
  rw [evX_fun (m := c6) rfl _ _ _ _ C.ne0 rfl]
  simp -implicitDefEqProofs only [c6, hlen, hcells, e0, push_cast, Nat.reduceAdd, Nat.reduceMul, Nat.reduceSub, Nat.reduceLT, Nat.reduceLeDiff, Nat.reduceEqDiff, Nat.reducePow, Int.reduceToNat, Int.reduceLT, Int.reduceLE, Int.reduceNeg, Int.reduceEq, Int.reducePow, reduceIte, reduceCtorEq, Int.reduceMul, Int.reduceAdd, Int.reduceSub, Int.reduceMod, Int.reduceDiv, Int.reduceTDiv, Int.reduceTMod]
  generalize hI : iter _ _ _ _ = I
  obtain ⟨T, hI2, hT, t0, t1⟩ := key _ _ hI ⟨_, rfl, rfl, rfl, rfl, rfl, rfl, rfl, rfl, fun j hj => by omega⟩
  subst hI2
  rw [tl53 hT]
  simp -implicitDefEqProofs only [t0, t1, h1, ec, hlen, hcells, hcl, hat, zcells, zcl, zat, ei, f1, f2, hH2, ep, evX_P, evX_N, push_cast, Nat.reduceAdd, Nat.reduceMul, Nat.reduceSub, Nat.reduceLT, Nat.reduceLeDiff, Nat.reduceEqDiff, Nat.reducePow, Int.reduceToNat, Int.reduceLT, Int.reduceLE, Int.reduceNeg, Int.reduceEq, Int.reducePow, reduceIte, reduceCtorEq, Int.reduceMul, Int.reduceAdd, Int.reduceSub, Int.reduceMod, Int.reduceDiv, Int.reduceTDiv, Int.reduceTMod]
  have l2 : H2.length = h.length + 1 := by rw [← hH2]; simp
  have hh' : ∀ j, j ≠ rc → j < h.length → (H2 ++ [r])[j]? = h[j]? := fun j hj hl => by
    rw [List.getElem?_append_left (by omega)]; exact hh j hj hl
  refine ⟨_, .sl h.length 0 0 1 1 1, _, rfl, ⟨C.mem.keep fun j hj => hh' j ?_ ?_, C.rm, C.own, C.r0, ?_, ?_, ?_, C.lk⟩, ?_⟩
  · have := C.own j hj; omega
  · have := C.own j hj; omega
  · rw [List.length_append]; omega
  · rw [rowOf_app_lt (by omega)]
    exact f2
  · exact rowOf_at ((hh' rk (by have := C.lk; omega) (rowOf_lt C.wk)).trans (at_rowOf C.wk))
  · unfold rowOf
    rw [hh' 0 (by have := C.r0; omega) (by omega)]
end Go.Proofs.Ytnnpkpceodpfhaa
