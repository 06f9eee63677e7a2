/- Threads are run, as the evaluator answers. -/
import Derived.Test.YtbmfmcimcdajcaaH34
set_option linter.unusedSimpArgs false
set_option linter.unusedVariables false
set_option maxRecDepth 100000
set_option maxHeartbeats 16000000
namespace Go.Proofs.Ytbmfmcimcdajcaa
open Go
theorem tl93 {T : List LV} (h : T.length = 93) : T = [getT T 0, getT T 1, getT T 2, getT T 3, getT T 4, getT T 5, getT T 6, getT T 7, getT T 8, getT T 9, getT T 10, getT T 11, getT T 12, getT T 13, getT T 14, getT T 15, getT T 16, getT T 17, getT T 18, getT T 19, getT T 20, getT T 21, getT T 22, getT T 23, getT T 24, getT T 25, getT T 26, getT T 27, getT T 28, getT T 29, getT T 30, getT T 31, getT T 32, getT T 33, getT T 34, getT T 35, getT T 36, getT T 37, getT T 38, getT T 39, getT T 40, getT T 41, getT T 42, getT T 43, getT T 44, getT T 45, getT T 46, getT T 47, getT T 48, getT T 49, getT T 50, getT T 51, getT T 52, getT T 53, getT T 54, getT T 55, getT T 56, getT T 57, getT T 58, getT T 59, getT T 60, getT T 61, getT T 62, getT T 63, getT T 64, getT T 65, getT T 66, getT T 67, getT T 68, getT T 69, getT T 70, getT T 71, getT T 72, getT T 73, getT T 74, getT T 75, getT T 76, getT T 77, getT T 78, getT T 79, getT T 80, getT T 81, getT T 82, getT T 83, getT T 84, getT T 85, getT T 86, getT T 87, getT T 88, getT T 89, getT T 90, getT T 91, getT T 92] := tlT h
/-! ### slices of ints that grow -/
def outS (r0 : Nat) : List Int → LV
  | [] => .nils
  | _ :: l => .sl r0 l.length 0 (l.length + 1) 1 (l.length + 1)
def tailS : List Int → List Row
  | [] => []
  | x :: l => [⟨l.length, (x :: l).map LV.i⟩]
def slv : List Int → LV
  | [] => .nils
  | x :: l => .im ((x :: l).map LV.i) (l.length + 1) false
theorem slv_slI : ∀ l, SlI l (slv l)
  | [] => slI_nil
  | x :: l => slI_im (x :: l) false
theorem len_out (r0 : Nat) : ∀ l : List Int, lenE (outS r0 l) = some (.i (l.length : Nat))
  | [] => rfl
  | x :: l => rfl
theorem atm_out (r0 : Nat) : ∀ l : List Int, atomB (outS r0 l) = true
  | [] => rfl
  | x :: l => rfl
theorem cells_out (r0 : Nat) : ∀ l : List Int, (outS r0 l).cells = [outS r0 l]
  | [] => rfl
  | x :: l => rfl
theorem app_out {g t0 : List Row} {N : Nat} (hN : g.length + t0.length = N) (n : Int) : ∀ l : List Int, l.length ≤ 100000 →
    appE 0 (g ++ (t0 ++ tailS l)) 1 8 [.i n] 1 (outS N l) = some (outS N (l ++ [n]), g ++ (t0 ++ tailS (l ++ [n])))
  | [], _ => by
    subst hN
    simp [appE, outS, tailS]
  | x :: l, hl => by
    subst hN
    have hr : rowOf (g ++ (t0 ++ tailS (x :: l))) (g.length + t0.length) l.length = some ((x :: l).map LV.i) := by
      rw [rowOf_right]
      have := @rowOf_right t0 (tailS (x :: l)) 0 l.length
      rw [Nat.add_zero] at this
      rw [this]
      simp [tailS, rowOf]
    have hs : ∀ y, (g ++ (t0 ++ tailS (x :: l))).set (g.length + t0.length) y = g ++ (t0 ++ [y]) := by
      intro y
      rw [set_right]
      have := @set_right t0 (tailS (x :: l)) 0 y
      rw [Nat.add_zero] at this
      rw [this]; rfl
    have e : (l ++ [n]).length = l.length + 1 := by simp
    have h1 : l.length + 1 + 1 ≤ 9223372036854775807 := by simp at hl; omega
    have h2 : (l.length + 1 + 1) * 8 ≤ 140737488355328 := by simp at hl; omega
    show appE 0 _ 1 8 [.i n] 1 (.sl (g.length + t0.length) l.length 0 (l.length + 1) 1 (l.length + 1)) = _
    simp only [appE, hr, hs, Nat.not_lt_zero, if_false]
    rw [if_neg (by simp), if_pos ⟨by omega, trivial, trivial, by simp, h1, h2⟩]
    simp only [outS, tailS, List.cons_append, e, List.map_cons, List.map_append, List.map_nil]
/-! ### threads in a heap -/
structure Th (g : List Row) (X : List LV) (L : List Int) : Prop where
  len : X.length = L.length
  each : ∀ i, i < L.length → (X[i]? = some (.v .nilIface) ∧ L.getD i 0 < 1) ∨ ∃ r, X[i]? = some (.ifc 34 (.p r 0 0)) ∧ rowOf g r 0 = some [.i (L.getD i 0)]
  inj : ∀ (i j r : Nat), X[i]? = some (LV.ifc 34 (.p r 0 0)) → X[j]? = some (LV.ifc 34 (.p r 0 0)) → i = j
theorem th_step {g : List Row} {X : List LV} {L : List Int} (h : Th g X L) {t r : Nat} (ht : t < L.length) (hx : X[t]? = some (.ifc 34 (.p r 0 0))) (hr : rowOf g r 0 = some [.i (L.getD t 0)]) : Th (g.set r ⟨0, [.i (L.getD t 0 - 1)]⟩) X (dec L t) := by
  refine ⟨by rw [dec_length]; exact h.len, fun i hi => ?_, h.inj⟩
  rw [dec_length] at hi
  rw [dec_get ht]
  by_cases hit : i = t
  · subst hit
    rw [if_pos rfl]
    exact .inr ⟨r, hx, rowOf_set (rowOf_lt hr)⟩
  · rw [if_neg hit]
    rcases h.each i hi with h1 | ⟨r', h1, h2⟩
    · exact .inl h1
    · refine .inr ⟨r', h1, ?_⟩
      rw [rowOf_set_ne]
      · exact h2
      · rintro rfl
        exact hit (h.inj i t r h1 hx)
/-- What holds of the run at each step. -/
def Inv17 (n B : Nat) (m : Mch) : Prop := m.L.length = n ∧ (∀ i : Nat, m.L.getD i 0 ≤ 9223372036854775807) ∧ (∀ p ∈ m.P, -9223372036854775808 ≤ p ∧ p ≤ 9223372036854775807) ∧ (-1 ≤ m.last ∧ m.last < n) ∧ m.out.length + mu m.L = B
theorem inv_next {n B : Nat} {m : Mch} {most : Int} (h : Inv17 n B m) (hd : ¬ m.done most) : Inv17 n B m.next := by
  obtain ⟨h1, h2, h3, h4, h5⟩ := h
  have hl : liv m.L ≠ [] := fun e => hd (.inl e)
  obtain ⟨a, b⟩ := mem_liv.1 (tn_mem m hl)
  refine ⟨by simp only [Mch.next, dec_length]; exact h1, fun i => ?_, fun p hp => h3 p (List.mem_of_mem_tail hp), ?_, ?_⟩
  · simp only [Mch.next, dec_get a]
    have := h2 m.tn
    have := h2 i
    split <;> omega
  · simp only [Mch.next]; omega
  · have := next_mu hd
    simp only [Mch.next, List.length_append, List.length_singleton] at this ⊢
    omega
theorem e23n (k : Nat) (h : List Row) (V : List Int) (i : Nat) (hi : i < V.length) : evF cm (k + 1) 23 [.im (V.map LV.i) V.length false, .i i, .i ((i : Int) + 1)] h 0 = none := by
  rw [evH_fun (m := c23) rfl _ _ _ _ rfl]
  have g1 : (i : Int) ≤ (i : Int) + 1 := by omega
  have g2 : (i : Int) + 1 ≤ (V.length : Int) := by omega
  have g3 : ¬ (i : Int) = (V.length : Int) := by omega
  have g4 : ¬ (i : Int) = (i : Int) + 1 := by omega
  have g5 : (0 : Int) ≤ (i : Int) + 1 := by omega
  have g6 : (i : Int) ≤ (V.length : Int) := by omega
  have g7 : (0 : Int) ≤ (i : Int) := by omega
  have n1 : ((i : Int) + 1).toNat = i + 1 := by omega
  have hA : (if 0 = (i : Int) then LV.im [] 0 false else LV.im (List.take i (V.map LV.i)) i false) = LV.im (List.take i (V.map LV.i)) i false := by
    split
    · obtain rfl : i = 0 := by omega
      rfl
    · rfl
  have u3 : ((V.drop (i + 1)).map LV.i).all atomB = true := by
    generalize V.drop (i + 1) = D
    induction D with
    | nil => rfl
    | cons x D ih => exact ih
  have u5 : ((V.drop (i + 1)).map LV.i).length = V.length - (i + 1) := by simp
  have u6 : List.take (V.length - (i + 1)) (List.drop (i + 1) (V.map LV.i)) = (V.drop (i + 1)).map LV.i := by
    rw [← List.map_drop, List.take_of_length_le (by simp)]
  by_cases hv : (i : Int) + 1 = (V.length : Int)
  · have g8 : ¬ (V.length : Int) ≤ (i : Int) := by omega
    simp -implicitDefEqProofs only [c23, g1, g2, g3, g4, g5, g6, g7, g8, n1, hA, hv, u3, u5, u6, Int.le_refl, Nat.sub_zero, push_cast, Nat.reduceAdd, Nat.reduceMul, Nat.reduceSub, Nat.reduceLT, Nat.reduceLeDiff, Nat.reduceEqDiff, Nat.reducePow, Int.reduceToNat, Int.reduceLT, Int.reduceLE, Int.reduceNeg, Int.reduceEq, Int.reducePow, reduceIte, reduceCtorEq, Int.reduceMul, Int.reduceAdd, Int.reduceSub, Int.reduceMod, Int.reduceDiv, Int.reduceTDiv, Int.reduceTMod, iter_s]
  · have g8 : ¬ V.length - (i + 1) = 0 := by omega
    simp -implicitDefEqProofs only [c23, g1, g2, g3, g4, g5, g6, g7, g8, n1, hA, hv, u3, u5, u6, Int.le_refl, Nat.sub_zero, push_cast, Nat.reduceAdd, Nat.reduceMul, Nat.reduceSub, Nat.reduceLT, Nat.reduceLeDiff, Nat.reduceEqDiff, Nat.reducePow, Int.reduceToNat, Int.reduceLT, Int.reduceLE, Int.reduceNeg, Int.reduceEq, Int.reducePow, reduceIte, reduceCtorEq, Int.reduceMul, Int.reduceAdd, Int.reduceSub, Int.reduceMod, Int.reduceDiv, Int.reduceTDiv, Int.reduceTMod, iter_s]
theorem map_erase (f : Nat → Int) : ∀ (l : List Nat) (i : Nat), (l.eraseIdx i).map f = (l.map f).eraseIdx i
  | [], i => by simp
  | x :: l, 0 => rfl
  | x :: l, i + 1 => by simp [map_erase f l i]
def fg17 : List Nat := [85, 84, 83, 82, 81, 80, 79, 78, 77, 76, 75, 74, 73, 72, 71, 70, 69, 68, 67, 66, 65, 64, 63, 62, 61, 60, 59, 58, 57, 56, 55, 54, 53, 52, 51, 50, 49, 48, 47, 46, 45, 44, 43, 42, 41, 40, 39, 38, 37, 36]
def S17 (N a b0 b c cap : Nat) (X : List LV) (most : Int) (m : Mch) (s : St) : Prop := ∃ T g PK Z, s = (T, g ++ (⟨0, [.sl (N + 1) b 0 (liv m.L).length 1 c, .i m.last, PK]⟩ :: ⟨b, (li m.L).map LV.i ++ Z⟩ :: tailS m.out)) ∧
  g.length = N ∧ Th g X m.L ∧ rowOf g a b0 = some X ∧ pkV m.P PK ∧ (liv m.L).length ≤ c ∧ T.length = 93 ∧ getT T 0 = .sl a b0 0 X.length 1 cap ∧ getT T 2 = .i most ∧ getT T 8 = .p N 0 0 ∧ getT T 11 = outS (N + 2) m.out
theorem step17 (K : Nat) (hK : 30 ≤ K) (N a b0 b c cap n B : Nat) (hn : n ≤ 12) (hB : B ≤ 480) (X : List LV) (sep : ∀ (i r : Nat), X[i]? = some (LV.ifc 34 (.p r 0 0)) → r ≠ a) (most : Int) (m : Mch) (s : St) (hv : Inv17 n B m) (hd : ¬ m.done most) (hs : S17 N a b0 b c cap X most m s) :
    ∃ s', evCode (evF cm K) K 0 c17b0 (cleanN fg17 s) = some (.nrm, s') ∧ S17 N a b0 b c cap X most m.next s' := by
  obtain ⟨k, rfl⟩ : ∃ k, K = k + 22 := ⟨K - 22, by omega⟩
  obtain ⟨T, g, PK, Z, rfl, hg, hT, hX, hPK, hc, ht, t0, t2, t8, t11⟩ := hs
  obtain ⟨v1, v2, v3, v4, v5⟩ := hv
  have hl : liv m.L ≠ [] := fun e => hd (.inl e)
  have hmost : (m.out.length : Int) < most := by
    by_cases h : (m.out.length : Int) < most
    · exact h
    · exact absurd (.inr (by omega)) hd
  have hl0 := List.length_pos_iff.2 hl
  have hln : (liv m.L).length ≤ 12 := by have := cnt_le m.L m.L.length; rw [liv_length]; omega
  have hmem := tn_mem m hl
  obtain ⟨a1, a2⟩ := mem_liv.1 hmem
  have hXl := hT.len
  obtain ⟨r, hx, hr⟩ : ∃ r, X[m.tn]? = some (LV.ifc 34 (.p r 0 0)) ∧ rowOf g r 0 = some [.i (m.L.getD m.tn 0)] := by
    rcases hT.each m.tn a1 with ⟨_, h⟩ | h
    · omega
    · exact h
  have hrN : r < N := by rw [← hg]; exact rowOf_lt hr
  have haN : a < N := by rw [← hg]; exact rowOf_lt hX
  -- who is next
  have k22 : ∃ (i : Nat) (PK' : LV), pkV m.P.tail PK' ∧ (liv m.L)[i]? = some m.tn ∧ ∀ rest : List Row, evF cm (k + 22) 22 [.p N 0 0] (g ++ (⟨0, [.sl (N + 1) b 0 (liv m.L).length 1 c, .i m.last, PK]⟩ :: ⟨b, (li m.L).map LV.i ++ Z⟩ :: rest)) 0 = some (.i i, g ++ (⟨0, [.sl (N + 1) b 0 (liv m.L).length 1 c, .i m.last, PK']⟩ :: ⟨b, (li m.L).map LV.i ++ Z⟩ :: rest)) := by
    have hq : ∀ rest : List Row, rowOf (g ++ (⟨0, [.sl (N + 1) b 0 (liv m.L).length 1 c, .i m.last, PK]⟩ :: ⟨b, (li m.L).map LV.i ++ Z⟩ :: rest)) N 0 = some [.sl (N + 1) b 0 (liv m.L).length 1 c, .i m.last, PK] := by
      intro rest
      have := @rowOf_right g (⟨0, [.sl (N + 1) b 0 (liv m.L).length 1 c, .i m.last, PK]⟩ :: ⟨b, (li m.L).map LV.i ++ Z⟩ :: rest) 0 0
      rw [hg] at this
      exact this
    have hq1 : ∀ rest : List Row, rowOf (g ++ (⟨0, [.sl (N + 1) b 0 (liv m.L).length 1 c, .i m.last, PK]⟩ :: ⟨b, (li m.L).map LV.i ++ Z⟩ :: rest)) (N + 1) b = some ((li m.L).map LV.i ++ Z) := by
      intro rest
      have := @rowOf_right g (⟨0, [.sl (N + 1) b 0 (liv m.L).length 1 c, .i m.last, PK]⟩ :: ⟨b, (li m.L).map LV.i ++ Z⟩ :: rest) 1 b
      rw [hg] at this
      rw [this]
      simp [rowOf]
    cases hP : m.P with
    | nil =>
      rw [hP] at hPK
      have htn : m.tn = (ring m.L m.last).headD 0 := by unfold Mch.tn; rw [hP]
      obtain ⟨i, h1, -⟩ := e22e k _ N (N + 1) b c m.last PK m.L Z (hq []) hPK (hq1 []) (by omega) (by omega) hl
      refine ⟨i, PK, hPK, by rw [htn]; exact h1, fun rest => ?_⟩
      obtain ⟨i', h1', h2'⟩ := e22e k _ N (N + 1) b c m.last PK m.L Z (hq rest) hPK (hq1 rest) (by omega) (by omega) hl
      have : i' = i := by
        have e := h1'.trans h1.symm
        obtain ⟨u1, u2⟩ := List.getElem?_eq_some_iff.1 h1
        obtain ⟨u1', u2'⟩ := List.getElem?_eq_some_iff.1 h1'
        have hp := List.pairwise_iff_getElem.1 (liv_sorted m.L)
        rcases Nat.lt_trichotomy i' i with h | h | h
        · have := hp i' i u1' u1 h; omega
        · exact h
        · have := hp i i' u1 u1' h; omega
      rw [← this]; exact h2'
    | cons p P =>
      rw [hP] at hPK
      rcases hPK with ⟨h, _⟩ | rfl
      · cases h
      · have hp := v3 p (by rw [hP]; simp)
        have htn : m.tn = (liv m.L).getD (p % ((liv m.L).length : Int)).toNat 0 := by unfold Mch.tn; rw [hP]
        have q1 := Int.emod_nonneg p (show ((liv m.L).length : Int) ≠ 0 by omega)
        have q2 := Int.emod_lt_of_pos p (show (0 : Int) < ((liv m.L).length : Int) by omega)
        have q3 : (p % ((liv m.L).length : Int)).toNat < (liv m.L).length := by omega
        obtain ⟨PK', h1, -⟩ := e22p (k + 2) _ N (N + 1) b (liv m.L).length c m.last p P (hq []) hp (by omega) (by omega)
        have hu : ∀ PK'', pkV P PK'' → P ≠ [] → PK'' = .im (P.map LV.i) P.length false := by
          intro PK'' h hne
          rcases h with ⟨h, _⟩ | h
          · exact absurd h hne
          · exact h
        refine ⟨(p % ((liv m.L).length : Int)).toNat, .im (P.map LV.i) P.length false, .inr rfl, ?_, fun rest => ?_⟩
        · rw [htn, List.getD_eq_getElem?_getD, List.getElem?_eq_getElem q3]; rfl
        · obtain ⟨PK'', h1', h2'⟩ := e22q (k + 2) _ N (N + 1) b (liv m.L).length c m.last p P (hq rest) hp (by omega) (by omega)
          subst h1'
          rw [show (((p % ((liv m.L).length : Int)).toNat : Nat) : Int) = p % ((liv m.L).length : Int) by omega]
          rw [h2']
          have := @set_right g (⟨0, [.sl (N + 1) b 0 (liv m.L).length 1 c, .i m.last, .im ((p :: P).map LV.i) (p :: P).length false]⟩ :: ⟨b, (li m.L).map LV.i ++ Z⟩ :: rest) 0 ⟨0, [.sl (N + 1) b 0 (liv m.L).length 1 c, .i m.last, .im (P.map LV.i) P.length false]⟩
          rw [hg] at this
          exact congrArg (fun z => some (LV.i _, z)) this
  obtain ⟨i, PK', hPK', hi, k22⟩ := k22
  obtain ⟨hi1, hi2⟩ := List.getElem?_eq_some_iff.1 hi
  have R0 : ∀ (t : List Row), rowOf (g ++ t) N 0 = rowOf t 0 0 := fun t => by have := @rowOf_right g t 0 0; rw [hg] at this; exact this
  have R1 : ∀ (t : List Row), rowOf (g ++ t) (N + 1) b = rowOf t 1 b := fun t => by have := @rowOf_right g t 1 b; rw [hg] at this; exact this
  have Ra : ∀ (t : List Row), rowOf (g ++ t) a b0 = some X := fun t => by rw [rowOf_left (by omega)]; exact hX
  have ST : ∀ (t : List Row) (x : Row), (g ++ t).set N x = g ++ t.set 0 x := fun t x => by have := @set_right g t 0 x; rw [hg] at this; exact this
  have hap : ∀ r1 r2 : Row, appE 0 (g ++ (r1 :: r2 :: tailS m.out)) 1 8 [.i m.tn] 1 (outS (N + 2) m.out) = some (outS (N + 2) (m.out ++ [(m.tn : Int)]), g ++ (r1 :: r2 :: tailS (m.out ++ [(m.tn : Int)]))) :=
    fun r1 r2 => app_out (g := g) (t0 := [r1, r2]) (N := N + 2) (by simp [hg]) (m.tn : Int) m.out (by omega)
  have hlo := len_out (N + 2) m.out
  generalize hgg : g.set r ⟨0, [.i (m.L.getD m.tn 0 - 1)]⟩ = g' at *
  have hg' : g'.length = N := by rw [← hgg]; simp [hg]
  have hT' : Th g' X m.next.L := by rw [← hgg]; exact th_step hT a1 hx hr
  have hX' : rowOf g' a b0 = some X := by rw [← hgg, rowOf_set_ne (sep _ _ hx)]; exact hX
  have k16 : ∀ (k : Nat) (t : List Row), evF cm (k + 1) 16 [.p r 0 0] (g ++ t) 0 = some (.b (decide (m.L.getD m.tn 0 = 1)), g' ++ t) := by
    intro k t
    rw [e16h k (g ++ t) r _ (by rw [rowOf_left (by omega)]; exact hr) (by omega) (v2 _), set_left (by omega), hgg]
  have R0' : ∀ (t : List Row), rowOf (g' ++ t) N 0 = rowOf t 0 0 := fun t => by have := @rowOf_right g' t 0 0; rw [hg'] at this; exact this
  have R1' : ∀ (t : List Row), rowOf (g' ++ t) (N + 1) b = rowOf t 1 b := fun t => by have := @rowOf_right g' t 1 b; rw [hg'] at this; exact this
  have ST' : ∀ (t : List Row) (x : Row), (g' ++ t).set N x = g' ++ t.set 0 x := fun t x => by have := @set_right g' t 0 x; rw [hg'] at this; exact this
  have hli : ((li m.L).map LV.i ++ Z)[i]? = some (.i m.tn) := by
    rw [List.getElem?_append_left (by simp [li_length, hi1])]
    simp [li, hi1, hi2]
  have gi : (i : Int) < ((liv m.L).length : Int) := by omega
  have gi0 : (0 : Int) ≤ (i : Int) := by omega
  have gx : (m.tn : Int) < (X.length : Int) := by omega
  have gx0 : (0 : Int) ≤ (m.tn : Int) := by omega
  have gl : (0 : Int) < ((liv m.L).length : Int) := by omega
  have w1 : IntKind.i64.wrap ((i : Int) + 1) = (i : Int) + 1 := w64 _ (by omega) (by omega)
  have cl := closedL_ints (li m.L)
  have t1 : List.take (liv m.L).length ((li m.L).map LV.i ++ Z) = (li m.L).map LV.i := by
    rw [List.take_append_of_le_length (by simp [li_length])]
    exact List.take_of_length_le (by simp [li_length])
  have tz : (liv m.L).length ≤ ((li m.L).map LV.i ++ Z).length := by simp [li_length]
  rw [tl93 ht]
  by_cases h1 : m.L.getD m.tn 0 = 1
  · have k23 : ∀ (k : Nat) (r0 : Row) (rest : List Row), evF cm (k + 1) 23 [.sl (N + 1) b 0 (liv m.L).length 1 c, .i i, .i ((i : Int) + 1)] (g' ++ (r0 :: ⟨b, (li m.L).map LV.i ++ Z⟩ :: rest)) 0 = some (.sl (N + 1) b 0 ((liv m.L).length - 1) 1 c, g' ++ (r0 :: ⟨b, ((li m.L).eraseIdx i).map LV.i ++ .i 0 :: Z⟩ :: rest)) := by
      intro k r0 rest
      have e := e23 k (g' ++ (r0 :: ⟨b, (li m.L).map LV.i ++ Z⟩ :: rest)) (N + 1) b c i (li m.L) Z (by rw [R1']; simp [rowOf]) (by rw [li_length]; exact hc) (by rw [li_length]; exact hi1) (by rw [li_length]; exact hln)
      rw [li_length] at e
      rw [e]
      have := @set_right g' (r0 :: ⟨b, (li m.L).map LV.i ++ Z⟩ :: rest) 1 ⟨b, ((li m.L).eraseIdx i).map LV.i ++ .i 0 :: Z⟩
      rw [hg'] at this
      rw [this]; rfl
    have k23n : ∀ (k : Nat), evF cm (k + 1) 23 [.im ((li m.L).map LV.i) (liv m.L).length false, .i i, .i ((i : Int) + 1)] [] 0 = none := by
      intro k
      have := e23n k [] (li m.L) i (by rw [li_length]; exact hi1)
      rw [li_length] at this
      exact this
    have hn1 : liv m.next.L = (liv m.L).eraseIdx i := by
      show liv (dec m.L m.tn) = _
      rw [liv_dec a1 a2, if_pos h1]
      exact erase_filter (liv_nodup m.L) hi
    have hn2 : li m.next.L = (li m.L).eraseIdx i := by
      unfold li
      rw [hn1, map_erase]
    have hn3 : (liv m.next.L).length = (liv m.L).length - 1 := by rw [hn1, List.length_eraseIdx, if_pos hi1]
    simp -implicitDefEqProofs only [c17b0, fg17, t0, t2, t8, t11, R0, R1, R0', R1', Ra, ST, ST', hap, hlo, k22, k16, k23, k23n, call_S, call_I, impF_none, hli, hx, h1, gi, gi0, gx, gx0, gl, hmost, w1, cl, t1, tz, push_cast, Nat.reduceAdd, Nat.reduceMul, Nat.reduceSub, Nat.reduceLT, Nat.reduceLeDiff, Nat.reduceEqDiff, Nat.reducePow, Int.reduceToNat, Int.reduceLT, Int.reduceLE, Int.reduceNeg, Int.reduceEq, Int.reducePow, reduceIte, reduceCtorEq, Int.reduceMul, Int.reduceAdd, Int.reduceSub, Int.reduceMod, Int.reduceDiv, Int.reduceTDiv, Int.reduceTMod, iter_s]
    refine ⟨_, rfl, _, g', PK', .i 0 :: Z, Prod.ext rfl ?_, hg', hT', hX', hPK', by rw [hn3]; omega, rfl, rfl, rfl, rfl, rfl⟩
    show _ = g' ++ (⟨0, [.sl (N + 1) b 0 (liv m.next.L).length 1 c, .i m.tn, PK']⟩ :: ⟨b, (li m.next.L).map LV.i ++ .i 0 :: Z⟩ :: tailS (m.out ++ [(m.tn : Int)]))
    rw [hn3, hn2]
  · have hn1 : liv m.next.L = liv m.L := by
      show liv (dec m.L m.tn) = _
      rw [liv_dec a1 a2, if_neg h1]
    have hn2 : li m.next.L = li m.L := by unfold li; rw [hn1]
    simp -implicitDefEqProofs only [c17b0, fg17, t0, t2, t8, t11, R0, R1, R0', R1', Ra, ST, ST', hap, hlo, k22, k16, call_S, call_I, impF_none, hli, hx, h1, gi, gi0, gx, gx0, gl, hmost, w1, cl, t1, tz, push_cast, Nat.reduceAdd, Nat.reduceMul, Nat.reduceSub, Nat.reduceLT, Nat.reduceLeDiff, Nat.reduceEqDiff, Nat.reducePow, Int.reduceToNat, Int.reduceLT, Int.reduceLE, Int.reduceNeg, Int.reduceEq, Int.reducePow, reduceIte, reduceCtorEq, Int.reduceMul, Int.reduceAdd, Int.reduceSub, Int.reduceMod, Int.reduceDiv, Int.reduceTDiv, Int.reduceTMod, iter_s]
    refine ⟨_, rfl, _, g', PK', Z, Prod.ext rfl ?_, hg', hT', hX', hPK', by rw [hn1]; omega, rfl, rfl, rfl, rfl, rfl⟩
    show _ = g' ++ (⟨0, [.sl (N + 1) b 0 (liv m.next.L).length 1 c, .i m.tn, PK']⟩ :: ⟨b, (li m.next.L).map LV.i ++ Z⟩ :: tailS (m.out ++ [(m.tn : Int)]))
    rw [hn1, hn2]
theorem last17 (K : Nat) (N a b0 b c cap : Nat) (X : List LV) (most : Int) (m : Mch) (s : St) (hd : m.done most) (hs : S17 N a b0 b c cap X most m s) :
    ∃ s', evCode (evF cm K) K 0 c17b0 (cleanN fg17 s) = some (.exit 2, s') ∧ S17 N a b0 b c cap X most m s' := by
  obtain ⟨T, g, PK, Z, rfl, hg, hT, hX, hPK, hc, ht, t0, t2, t8, t11⟩ := hs
  have R0 : ∀ (t : List Row), rowOf (g ++ t) N 0 = rowOf t 0 0 := fun t => by have := @rowOf_right g t 0 0; rw [hg] at this; exact this
  have hlo := len_out (N + 2) m.out
  rw [tl93 ht]
  by_cases gl : (0 : Int) < ((liv m.L).length : Int)
  · have hm : ¬ (m.out.length : Int) < most := by
      rcases hd with h | h
      · rw [h] at gl; simp at gl
      · omega
    simp -implicitDefEqProofs only [c17b0, fg17, t0, t2, t8, t11, R0, hlo, gl, hm, push_cast, Nat.reduceAdd, Nat.reduceMul, Nat.reduceSub, Nat.reduceLT, Nat.reduceLeDiff, Nat.reduceEqDiff, Nat.reducePow, Int.reduceToNat, Int.reduceLT, Int.reduceLE, Int.reduceNeg, Int.reduceEq, Int.reducePow, reduceIte, reduceCtorEq, Int.reduceMul, Int.reduceAdd, Int.reduceSub, Int.reduceMod, Int.reduceDiv, Int.reduceTDiv, Int.reduceTMod, iter_s]
    exact ⟨_, rfl, _, g, PK, Z, rfl, hg, hT, hX, hPK, hc, rfl, rfl, rfl, rfl, rfl⟩
  · simp -implicitDefEqProofs only [c17b0, fg17, t0, t2, t8, t11, R0, hlo, gl, push_cast, Nat.reduceAdd, Nat.reduceMul, Nat.reduceSub, Nat.reduceLT, Nat.reduceLeDiff, Nat.reduceEqDiff, Nat.reducePow, Int.reduceToNat, Int.reduceLT, Int.reduceLE, Int.reduceNeg, Int.reduceEq, Int.reducePow, reduceIte, reduceCtorEq, Int.reduceMul, Int.reduceAdd, Int.reduceSub, Int.reduceMod, Int.reduceDiv, Int.reduceTDiv, Int.reduceTMod, iter_s]
    exact ⟨_, rfl, _, g, PK, Z, rfl, hg, hT, hX, hPK, hc, rfl, rfl, rfl, rfl, rfl⟩
end Go.Proofs.Ytbmfmcimcdajcaa
