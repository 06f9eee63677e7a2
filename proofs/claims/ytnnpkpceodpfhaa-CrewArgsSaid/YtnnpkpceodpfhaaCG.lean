/- The law CrewArgs, as the evaluator answers. -/
import Derived.Test.YtnnpkpceodpfhaaCE
import Derived.Test.YtnnpkpceodpfhaaA33
set_option linter.unusedSimpArgs false
set_option linter.unusedVariables false
set_option linter.unusedSectionVars false
set_option maxRecDepth 100000
set_option maxHeartbeats 16000000
namespace Go.Proofs.Ytnnpkpceodpfhaa
open Go
theorem law_no (k : Nat) (a b c n : Int) (S : LV) (hS : S.cells = [S]) (h : a < 1 ∨ 8 < a ∨ b < 1 ∨ 64 < b ∨ c < 1 ∨ 256 < c) : evP (evF cm (k + 300)) 3 [.agg [.i a, .i b, .i c], S, .i n] = some (.b true) := by
  have e := fun k => cnew_no k a b c h
  have m6 := fun x (h : List Row) k => n6 (x :: h) rfl k S hS
  have m7 := fun x (h : List Row) k => n7 (x :: h) rfl k n
  have m8 := fun x (h : List Row) k => n8 (x :: h) rfl k
  have m9 := fun x (h : List Row) k => n9 (x :: h) rfl k n
  have m10 := fun x (h : List Row) k => n10 (x :: h) rfl k
  have m11 := fun x (h : List Row) k => n11 (x :: h) rfl k
  rw [evP_fun (m := c3) rfl _ _ rfl]
  by_cases h1 : a < 1
  · simp -implicitDefEqProofs only [c3, hS, e, h1, m6, m7, m8, m9, m10, m11, e12, evX_P, evX_N, push_cast, Nat.reduceAdd, Nat.reduceMul, Nat.reduceSub, Nat.reduceLT, Nat.reduceLeDiff, Nat.reduceEqDiff, Nat.reducePow, Int.reduceToNat, Int.reduceLT, Int.reduceLE, Int.reduceNeg, Int.reduceEq, Int.reducePow, reduceIte, reduceCtorEq, Int.reduceMul, Int.reduceAdd, Int.reduceSub, Int.reduceMod, Int.reduceDiv, Int.reduceTDiv, Int.reduceTMod, iter_s]
  by_cases h2 : 8 < a
  · simp -implicitDefEqProofs only [c3, hS, e, h1, h2, m6, m7, m8, m9, m10, m11, e12, evX_P, evX_N, push_cast, Nat.reduceAdd, Nat.reduceMul, Nat.reduceSub, Nat.reduceLT, Nat.reduceLeDiff, Nat.reduceEqDiff, Nat.reducePow, Int.reduceToNat, Int.reduceLT, Int.reduceLE, Int.reduceNeg, Int.reduceEq, Int.reducePow, reduceIte, reduceCtorEq, Int.reduceMul, Int.reduceAdd, Int.reduceSub, Int.reduceMod, Int.reduceDiv, Int.reduceTDiv, Int.reduceTMod, iter_s]
  by_cases h3 : b < 1
  · simp -implicitDefEqProofs only [c3, hS, e, h1, h2, h3, m6, m7, m8, m9, m10, m11, e12, evX_P, evX_N, push_cast, Nat.reduceAdd, Nat.reduceMul, Nat.reduceSub, Nat.reduceLT, Nat.reduceLeDiff, Nat.reduceEqDiff, Nat.reducePow, Int.reduceToNat, Int.reduceLT, Int.reduceLE, Int.reduceNeg, Int.reduceEq, Int.reducePow, reduceIte, reduceCtorEq, Int.reduceMul, Int.reduceAdd, Int.reduceSub, Int.reduceMod, Int.reduceDiv, Int.reduceTDiv, Int.reduceTMod, iter_s]
  by_cases h4 : 64 < b
  · simp -implicitDefEqProofs only [c3, hS, e, h1, h2, h3, h4, m6, m7, m8, m9, m10, m11, e12, evX_P, evX_N, push_cast, Nat.reduceAdd, Nat.reduceMul, Nat.reduceSub, Nat.reduceLT, Nat.reduceLeDiff, Nat.reduceEqDiff, Nat.reducePow, Int.reduceToNat, Int.reduceLT, Int.reduceLE, Int.reduceNeg, Int.reduceEq, Int.reducePow, reduceIte, reduceCtorEq, Int.reduceMul, Int.reduceAdd, Int.reduceSub, Int.reduceMod, Int.reduceDiv, Int.reduceTDiv, Int.reduceTMod, iter_s]
  by_cases h5 : c < 1
  · simp -implicitDefEqProofs only [c3, hS, e, h1, h2, h3, h4, h5, m6, m7, m8, m9, m10, m11, e12, evX_P, evX_N, push_cast, Nat.reduceAdd, Nat.reduceMul, Nat.reduceSub, Nat.reduceLT, Nat.reduceLeDiff, Nat.reduceEqDiff, Nat.reducePow, Int.reduceToNat, Int.reduceLT, Int.reduceLE, Int.reduceNeg, Int.reduceEq, Int.reducePow, reduceIte, reduceCtorEq, Int.reduceMul, Int.reduceAdd, Int.reduceSub, Int.reduceMod, Int.reduceDiv, Int.reduceTDiv, Int.reduceTMod, iter_s]
  have h6 : 256 < c := by omega
  simp -implicitDefEqProofs only [c3, hS, e, h1, h2, h3, h4, h5, h6, m6, m7, m8, m9, m10, m11, e12, evX_P, evX_N, push_cast, Nat.reduceAdd, Nat.reduceMul, Nat.reduceSub, Nat.reduceLT, Nat.reduceLeDiff, Nat.reduceEqDiff, Nat.reducePow, Int.reduceToNat, Int.reduceLT, Int.reduceLE, Int.reduceNeg, Int.reduceEq, Int.reducePow, reduceIte, reduceCtorEq, Int.reduceMul, Int.reduceAdd, Int.reduceSub, Int.reduceMod, Int.reduceDiv, Int.reduceTDiv, Int.reduceTMod, iter_s]
open Classical in
theorem law_yes (K : Nat) (k w t : Nat) (hk : 0 < k ∧ k ≤ 8) (hw : w + 1 ≤ 64) (ht : 0 < t ∧ t ≤ 256) (l : List Int) (S : LV) (hS : SlI l S) (hf : 0 < l.length → ∃ b, S = .im (l.map LV.i) l.length b) (hl : l.length ≤ 9223372036854775807) (n : Int) :
    evP (evF cm (K + l.length + 1000)) 3 [.agg [.i k, .i ((w + 1 : Nat) : Int), .i t], S, .i n] = some (.b true) := by
  obtain ⟨h, M, row, rc, rd, rk, wr, e, I, hn, hp, ho, hc⟩ := cnew_ok (K + l.length + 699) k (w + 1) t hk ⟨by omega, hw⟩ ht
  have e5 : evF cm (K + l.length + 999) 5 [.i k, .i ((w : Int) + 1), .i t, .v .nilFunc] [] 0 = some (.tup [.p rc 0 0, .i 0], h) := e
  have e5p : evP (evF cm (K + l.length + 999)) 5 [.i k, .i ((w : Int) + 1), .i t, .v .nilFunc] = none := by unfold evP; rw [e5]; rfl
  have C := I.shift ⟨0, [.i k, .i ((w : Int) + 1), .i t]⟩
  have q1 : rowOf ([⟨0, [.i k, .i ((w : Int) + 1), .i t]⟩] ++ shR 1 h) 0 0 = some [.i k, .i ((w : Int) + 1), .i t] := rfl
  have i1 : ¬ (k : Int) < 1 := by omega
  have i2 : ¬ 8 < (k : Int) := by omega
  have i3 : ¬ (w : Int) + 1 < 1 := by omega
  have i4 : ¬ 64 < (w : Int) + 1 := by omega
  have i5 : ¬ (t : Int) < 1 := by omega
  have i6 : ¬ 256 < (t : Int) := by omega
  have er := rising13 hS t (by omega) (K + 996) hl
  rw [show K + 996 + l.length + 3 = K + l.length + 999 by omega] at er
  have ew : evP (evF cm (K + l.length + 999)) 12 [] = some (.b true) := e12 (K + l.length + 799)
  have hpu := hS.pu
  have hce := hS.cells
  have hcl := hS.cl
  generalize hG : shR 1 h = G at *
  generalize hx1 : 1 + rc = r1 at *
  generalize hx2 : 1 + rk = r2 at *
  have key : ∃ h1 o f b fr, rowOf h1 0 0 = some [.i k, .i ((w : Int) + 1), .i t] ∧ evP (evF cm (K + l.length + 999)) 13 [S, .i t] = some (.b b) ∧ evF cm (K + l.length + 999) 6 [.p r1 0 0, S] ([⟨0, [.i k, .i ((w : Int) + 1), .i t]⟩] ++ G) 0 = some (.tup [o, .i f], h1) ∧ CF h1 M (fun τ => 1 + row τ) k t r1 r2 (.sl (1 + rd) w 0 (w + 1) 2 (w + 1)) fr (fun j => 1 + wr j) w ∧ ((b = true ∧ f = 0 ∧ ∃ p, o = .p p 0 0) ∨ (b = false ∧ f = 2 ∧ o = .v (.pointer none))) := by
    by_cases hg : 0 < l.length ∧ good t l
    · obtain ⟨b, rfl⟩ := hf hg.1
      obtain ⟨h1, fr, p, f1, f2, f3⟩ := frame_yes C l b (K + 989) ht.2 hg
      rw [show K + 989 + l.length + 10 = K + l.length + 999 by omega] at f1
      exact ⟨h1, _, 0, true, fr, f3.trans q1, by rw [er, decide_eq_true hg], f1, f2, .inl ⟨rfl, rfl, p, rfl⟩⟩
    · have f1 := frame_no C hS (K + 997) hl hg
      rw [show K + 997 + l.length + 2 = K + l.length + 999 by omega] at f1
      exact ⟨_, _, 2, false, .nils, q1, by rw [er, decide_eq_false hg], f1, C, .inr ⟨rfl, rfl, rfl⟩⟩
  clear er
  obtain ⟨h1, o, f, b, fr, q2, er, ef, C1, hcase⟩ := key
  have e10 : evF cm (K + l.length + 999) 10 [.p r1 0 0] (⟨0, [.i k, .i ((w : Int) + 1), .i t]⟩ :: G) 0 = some (.p 5 0 0, ⟨0, [.i k, .i ((w : Int) + 1), .i t]⟩ :: G) := c10y C (K + l.length + 998)
  have e11 : evF cm (K + l.length + 999) 11 [.p r1 0 0] (⟨0, [.i k, .i ((w : Int) + 1), .i t]⟩ :: G) 0 = some (.p 1 0 0, ⟨0, [.i k, .i ((w : Int) + 1), .i t]⟩ :: G) := c11' C (K + l.length + 998)
  have ef : evF cm (K + l.length + 999) 6 [.p r1 0 0, S] (⟨0, [.i k, .i ((w : Int) + 1), .i t]⟩ :: G) 0 = some (.tup [o, .i f], h1) := ef
  have key2 : ∃ h2 g, rowOf h2 0 0 = some [.i k, .i ((w : Int) + 1), .i t] ∧ evF cm (K + l.length + 999) 9 [.p r1 0 0, .i n] h1 0 = some (.i g, h2) ∧ CW h2 k t r1 r2 (.sl (1 + rd) w 0 (w + 1) 2 (w + 1)) fr (fun j => 1 + wr j) w ∧ ((0 ≤ n ∧ n < t ∧ g = 0) ∨ ((n < 0 ∨ t ≤ n) ∧ g = 2)) := by
    by_cases h : n < 0 ∨ (t : Int) ≤ n
    · exact ⟨h1, 2, q2, c9n C1 (K + l.length + 998) n h, ⟨C1.ne0, C1.crew, C1.wk⟩, .inr ⟨h, rfl⟩⟩
    · obtain ⟨m, rfl⟩ : ∃ m : Nat, n = m := ⟨n.toNat, by omega⟩
      obtain ⟨h2, g1, g2, g3⟩ := c9y C1 (K + l.length + 887) m (by omega) ht.2 hk.2 (by omega) hp (by omega) (by rw [hc]; simp)
      exact ⟨h2, 0, g3.trans q2, g1, g2, .inl ⟨by omega, by omega, rfl⟩⟩
  obtain ⟨h2, g, q3, e9, C2, hread⟩ := key2
  have key3 : ∃ p, evF cm (K + l.length + 999) 7 [.p r1 0 0, .i n] h2 0 = some (p, h2) ∧ ((0 ≤ n ∧ n < (w : Int) + 1 ∧ ∃ r, p = .p r 0 0) ∨ ((n < 0 ∨ (w : Int) + 1 ≤ n) ∧ p = .v (.pointer none))) := by
    by_cases h : n < 0 ∨ (w : Int) + 1 ≤ n
    · exact ⟨_, c7n C2 (K + l.length + 998) n h, .inr ⟨h, rfl⟩⟩
    · obtain ⟨m, rfl⟩ : ∃ m : Nat, n = m := ⟨n.toNat, by omega⟩
      exact ⟨_, c7y C2 (K + l.length + 998) m (by omega), .inl ⟨by omega, by omega, _, rfl⟩⟩
  obtain ⟨p, e7, hwork⟩ := key3
  clear hS hf I C C1 C2 e
  rw [evP_fun (m := c3) rfl _ _ rfl]
  rcases hcase with ⟨rfl, rfl, p', rfl⟩ | ⟨rfl, rfl, rfl⟩ <;> rcases hread with ⟨n1, n2, rfl⟩ | ⟨n1, rfl⟩ <;> rcases hwork with ⟨n3, n4, r, rfl⟩ | ⟨n3, rfl⟩ <;> by_cases m0 : 0 ≤ n <;> by_cases m1 : n < (t : Int) <;> by_cases m2 : n < (w : Int) + 1
  all_goals first
    | (exfalso; omega)
    | (clear n1 n3; simp -implicitDefEqProofs (maxSteps := 2000000) only [c3, hce, hcl, i1, i2, i3, i4, i5, i6, e5, e5p, hG, hx1, e10, e11, ef, er, q1, q2, q3, e9, e7, ew, m0, m1, m2, evX_P, evX_N, push_cast, Nat.reduceAdd, Nat.reduceMul, Nat.reduceSub, Nat.reduceLT, Nat.reduceLeDiff, Nat.reduceEqDiff, Nat.reducePow, Int.reduceToNat, Int.reduceLT, Int.reduceLE, Int.reduceNeg, Int.reduceEq, Int.reducePow, reduceIte, reduceCtorEq, Int.reduceMul, Int.reduceAdd, Int.reduceSub, Int.reduceMod, Int.reduceDiv, Int.reduceTDiv, Int.reduceTMod, iter_s])
theorem slI_form {cs : List LV} (h : Is (.sl (.i .i64)) cs) : ∃ l S, cs = [S] ∧ SlI l S ∧ (0 < l.length → ∃ b, S = .im (l.map LV.i) l.length b) ∧ l.length ≤ 9223372036854775807 := by
  rcases h with rfl | ⟨L, rfl, hlen, hL⟩
  · exact ⟨[], _, rfl, slI_nil, fun hn => by simp at hn, Nat.zero_le _⟩
  · have : ∃ l : List Int, L.flatten = l.map LV.i ∧ L.length = l.length := by
      clear hlen
      induction L with
      | nil => exact ⟨[], rfl, rfl⟩
      | cons x L ih =>
        obtain ⟨l, h1, h2⟩ := ih (fun y hy => hL y (by simp [hy]))
        obtain ⟨n, hn, hn1, hn2⟩ := hL x (by simp)
        exact ⟨n :: l, by simp [hn, h1], by simp [h2]⟩
    obtain ⟨l, h1, h2⟩ := this
    refine ⟨l, _, by rw [h1, h2], slI_im l false, fun _ => ⟨false, rfl⟩, ?_⟩
    rw [← h2]
    exact hlen
theorem e3 (a b c n : Int) (l : List Int) (S : LV) (hS : SlI l S) (hf : 0 < l.length → ∃ b, S = .im (l.map LV.i) l.length b) (hl : l.length ≤ 9223372036854775807) : evP (evF cm (l.length + 1000)) 3 [.agg [.i a, .i b, .i c], S, .i n] = some (.b true) := by
  by_cases h : a < 1 ∨ 8 < a ∨ b < 1 ∨ 64 < b ∨ c < 1 ∨ 256 < c
  · exact law_no (l.length + 700) a b c n S hS.cells h
  · obtain ⟨k, rfl⟩ : ∃ k : Nat, a = k := ⟨a.toNat, by omega⟩
    obtain ⟨w, rfl⟩ : ∃ w : Nat, b = ((w + 1 : Nat) : Int) := ⟨(b - 1).toNat, by omega⟩
    obtain ⟨t, rfl⟩ : ∃ t : Nat, c = t := ⟨c.toNat, by omega⟩
    have := law_yes 0 k w t (by omega) (by omega) (by omega) l S hS hf hl n
    rwa [Nat.zero_add] at this
end Go.Proofs.Ytnnpkpceodpfhaa
