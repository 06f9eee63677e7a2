/- What is ordered ahead of an operation, as the evaluator answers. -/
import Derived.Test.YtlbcandecifkcaaF30
set_option linter.unusedSimpArgs false
set_option linter.unusedVariables false
set_option maxRecDepth 100000
set_option maxHeartbeats 16000000
namespace Go.Proofs.Ytlbcandecifkcaa
open Go
/-! ### rows of truths -/
def bv (n : Nat) (f : Nat → Bool) : List LV := (List.range n).map fun j => .b (f j)
theorem bv_length (n : Nat) (f : Nat → Bool) : (bv n f).length = n := by simp [bv]
theorem bv_get {n : Nat} {f : Nat → Bool} {i : Nat} (h : i < n) : (bv n f)[i]? = some (.b (f i)) := by simp [bv, h]
theorem bv_congr {n : Nat} {f g : Nat → Bool} (h : ∀ i, i < n → f i = g i) : bv n f = bv n g := by
  unfold bv; exact List.map_congr_left fun i hi => by rw [h i (List.mem_range.1 hi)]
theorem bv_bools (n : Nat) (f : Nat → Bool) : bv n f = bools ((List.range n).map f) := by simp [bv, bools]
theorem bput {n : Nat} {f : Nat → Bool} {u : Nat} {x : Bool} (h : u < n) : List.take u (bv n f) ++ [LV.b x] ++ List.drop (u + 1) (bv n f) = bv n (upd f u x) := by
  rw [List.append_assoc, List.cons_append, List.nil_append]
  refine List.ext_getElem? fun i => ?_
  rw [List.getElem?_append]
  have hl : (List.take u (bv n f)).length = u := by rw [List.length_take, bv_length]; omega
  rw [hl]
  by_cases hi : i < u
  · rw [if_pos hi, List.getElem?_take, if_pos hi, bv_get (by omega), bv_get (by omega), upd_ne _ _ (by omega)]
  · rw [if_neg hi]
    by_cases he : i = u
    · subst he; rw [Nat.sub_self, bv_get h, upd_same]; rfl
    · rw [show i - u = (i - u - 1) + 1 by omega, List.getElem?_cons_succ, List.getElem?_drop, show u + 1 + (i - u - 1) = i by omega]
      by_cases hn : i < n
      · rw [bv_get hn, bv_get hn, upd_ne _ _ he]
      · rw [List.getElem?_eq_none (by rw [bv_length]; omega), List.getElem?_eq_none (by rw [bv_length]; omega)]
theorem repC_bv (b : Bool) : ∀ m, repC [.b b] m = bv m fun _ => b := by
  intro m
  have : ∀ m, repC [.b b] m = List.replicate m (.b b) := by
    intro m
    induction m with
    | zero => rfl
    | succ m ih => simp [repC, ih, List.replicate_succ]
  rw [this]
  refine List.ext_getElem (by simp [bv]) fun i h1 h2 => by simp [bv]
theorem tl97 {T : List LV} (h : T.length = 97) : T = [getT T 0, getT T 1, getT T 2, getT T 3, getT T 4, getT T 5, getT T 6, getT T 7, getT T 8, getT T 9, getT T 10, getT T 11, getT T 12, getT T 13, getT T 14, getT T 15, getT T 16, getT T 17, getT T 18, getT T 19, getT T 20, getT T 21, getT T 22, getT T 23, getT T 24, getT T 25, getT T 26, getT T 27, getT T 28, getT T 29, getT T 30, getT T 31, getT T 32, getT T 33, getT T 34, getT T 35, getT T 36, getT T 37, getT T 38, getT T 39, getT T 40, getT T 41, getT T 42, getT T 43, getT T 44, getT T 45, getT T 46, getT T 47, getT T 48, getT T 49, getT T 50, getT T 51, getT T 52, getT T 53, getT T 54, getT T 55, getT T 56, getT T 57, getT T 58, getT T 59, getT T 60, getT T 61, getT T 62, getT T 63, getT T 64, getT T 65, getT T 66, getT T 67, getT T 68, getT T 69, getT T 70, getT T 71, getT T 72, getT T 73, getT T 74, getT T 75, getT T 76, getT T 77, getT T 78, getT T 79, getT T 80, getT T 81, getT T 82, getT T 83, getT T 84, getT T 85, getT T 86, getT T 87, getT T 88, getT T 89, getT T 90, getT T 91, getT T 92, getT T 93, getT T 94, getT T 95, getT T 96] := tlT h
theorem bhT_succ (L : List Dn) (t : Int) (m j : Nat) : bhT L t (m + 1) j = (bhT L t m j || decide ((dn L m).t = t) && (decide (j = m) || decide (j < m) && bfAt L m j)) := by
  unfold bhT
  rw [List.range_succ, List.any_append]
  simp only [List.any_cons, List.any_nil, Bool.or_false]
  by_cases h1 : (dn L m).t = t
  · by_cases h2 : j = m
    · subst h2; simp [h1]
    · have : decide (j < m + 1) = decide (j < m) := by rw [decide_eq_decide]; omega
      rw [this]
      simp [h1, h2, Bool.or_assoc]
  · simp only [h1, decide_false, Bool.false_and, Bool.or_false]
    by_cases h2 : j = m
    · subst h2; simp [h1]
    · have : decide (j < m + 1) = decide (j < m) := by rw [decide_eq_decide]; omega
      rw [this]
def fg32b : List Nat := [40, 39, 58, 57, 56, 55, 54, 53, 52, 51, 50, 49, 48, 47, 46, 45, 44, 43, 42, 41, 38, 37, 36]
def fg32a : List Nat := [77, 76, 95, 94, 93, 92, 91, 90, 89, 88, 87, 86, 85, 84, 83, 82, 81, 80, 79, 78, 75, 74, 73]
/-- The frame of rows that are there all along. -/
structure Fb (h hh : List Row) (hd od : List LV) (n : Nat) (f : Nat → Bool) : Prop where
  x : Ext h hh
  r0 : rowOf hh h.length 0 = some hd
  r1 : rowOf hh (h.length + 1) 0 = some od
  r2 : rowOf hh (h.length + 2) 0 = some (bv n f)
theorem Fb.put {h hh : List Row} {hd od : List LV} {n : Nat} {f : Nat → Bool} (F : Fb h hh hd od n f) (g : Nat → Bool) : Fb h (hh.set (h.length + 2) ⟨0, bv n g⟩) hd od n g :=
  ⟨F.x.put (by omega) _, by rw [rowOf_set_ne (by omega)]; exact F.r0, by rw [rowOf_set_ne (by omega)]; exact F.r1, rowOf_set_eq (rowOf_lt F.r2)⟩
theorem Fb.ext {h hh h2 : List Row} {hd od : List LV} {n : Nat} {f : Nat → Bool} (F : Fb h hh hd od n f) (x : Ext hh h2) : Fb h h2 hd od n f :=
  ⟨F.x.trans x, x.row F.r0, x.row F.r1, x.row F.r2⟩
theorem Fb.congr {h hh : List Row} {hd od : List LV} {n : Nat} {f g : Nat → Bool} (F : Fb h hh hd od n f) (hg : ∀ i, i < n → f i = g i) : Fb h hh hd od n g :=
  ⟨F.x, F.r0, F.r1, by rw [← bv_congr hg]; exact F.r2⟩
/-- One place of what is ordered ahead by operation i. -/
def gI (L : List Dn) (i : Nat) (base : Nat → Bool) (k : Nat) : Nat → Bool := fun j => base j || decide (j < k) && bfAt L i j
def S32 (h : List Row) (hd od : List LV) (L : List Dn) (i : Nat) (base : Nat → Bool) (P : List LV → Prop) (k : Nat) (s : St) : Prop := ∃ T hh, s = (T, hh) ∧ Fb h hh hd od L.length (gI L i base k) ∧ T.length = 97 ∧ P T
def P32 (h : List Row) (n i : Nat) (sees : Bool) (T : List LV) : Prop := getT T 2 = .b sees ∧ getT T 3 = .p h.length 0 0 ∧ getT T 4 = .p (h.length + 1) 0 0 ∧ getT T 7 = .sl (h.length + 2) 0 0 n 1 n ∧ getT T 8 = .i i
theorem gI_succ (L : List Dn) (i : Nat) (base : Nat → Bool) (k : Nat) : upd (gI L i base k) k (gI L i base k k || bfAt L i k) = gI L i base (k + 1) := by
  funext j
  by_cases hj : j = k
  · subst hj; rw [upd_same]; simp [gI]
  · rw [upd_ne _ _ hj]
    unfold gI
    rw [decide_eq_decide.2 (show j < k ↔ j < k + 1 by omega)]
theorem beh_round (K : Nat) (h : List Row) (th na np nl : Int) (L : List Dn) (cl : List (Int × Int × Int)) (LS CS : LV) {P : Nat → Prop} (H : HAll h P L cl LS CS) (od : List LV) (sees : Bool) (base : Nat → Bool) (i : Nat) (hi : i < L.length) (k : Nat) (s : St) (hk : k < i)
    (hs : S32 h [.i th, .i na, .i np, .i nl, LS, CS] od L i base (fun T => P32 h L.length i sees T ∧ getT T 9 = .i k) k s) :
    ∃ s', evCode (evF cm K) K 0 c32b1 (cleanN fg32b s) = some (.nrm, s') ∧ S32 h [.i th, .i na, .i np, .i nl, LS, CS] od L i base (fun T => P32 h L.length i sees T ∧ getT T 9 = .i ((k + 1 : Nat) : Int)) (k + 1) s' := by
  obtain ⟨T, hh, rfl, F, hT, ⟨t2, t3, t4, t7, t8⟩, t9⟩ := hs
  rw [tl97 hT]
  have hn := H.n
  obtain ⟨kk, v, b, hls, hr, hb, hbl⟩ := H.at' hi
  subst hls
  have g1 : (k : Int) < (i : Int) := by omega
  have g2 : (0 : Int) ≤ (k : Int) := by omega
  have g3 : (k : Int) < (L.length : Int) := by omega
  have g4 : (0 : Int) ≤ (i : Int) := by omega
  have g5 : (i : Int) < (L.length : Int) := by omega
  have w1 : IntKind.i64.wrap ((k : Int) + 1) = (k : Int) + 1 := w64 _ (by omega) (by omega)
  have r0 := F.r0
  have r2 := F.r2
  have r3 := F.x.row hr
  have r4 := F.x.row hb
  obtain ⟨-, -, -, q5, -, -⟩ := dCells_get (b := b) (L := L) hi
  have b1 := bv_get (f := gI L i base k) (show k < L.length by omega)
  have b2 := fun x => bput (f := gI L i base k) (x := x) (show k < L.length by omega)
  have b3 : k + 1 ≤ (bv L.length (gI L i base k)).length := by rw [bv_length]; omega
  have b4 : (bools (dn L i).bf)[k]? = some (.b (bfAt L i k)) := bools_get (by omega)
  have hF := F.put (upd (gI L i base k) k (gI L i base k k || bfAt L i k))
  rw [gI_succ] at hF
  cases hg : gI L i base k k with
  | true =>
    rw [hg] at b1
    have e : upd (gI L i base k) k true = gI L i base (k + 1) := by rw [← gI_succ, hg]; rfl
    simp -implicitDefEqProofs only [c32b1, fg32b, t2, t3, t4, t7, t8, t9, g1, g2, g3, g4, g5, w1, r0, r2, r3, r4, q5, b1, b2, b3, b4, e, push_cast, Nat.reduceAdd, Nat.reduceMul, Nat.reduceSub, Nat.reduceLT, Nat.reduceLeDiff, Nat.reduceEqDiff, Nat.reducePow, Int.reduceToNat, Int.reduceLT, Int.reduceLE, Int.reduceNeg, Int.reduceEq, Int.reducePow, reduceIte, reduceCtorEq, Int.reduceMul, Int.reduceAdd, Int.reduceSub, Int.reduceMod, Int.reduceDiv, Int.reduceTDiv, Int.reduceTMod, iter_s]
    exact ⟨_, rfl, _, _, rfl, hF, rfl, ⟨rfl, rfl, rfl, rfl, rfl⟩, rfl⟩
  | false =>
    rw [hg] at b1
    have e : upd (gI L i base k) k (bfAt L i k) = gI L i base (k + 1) := by rw [← gI_succ, hg]; rfl
    simp -implicitDefEqProofs only [c32b1, fg32b, t2, t3, t4, t7, t8, t9, g1, g2, g3, g4, g5, w1, r0, r2, r3, r4, q5, b1, b2, b3, b4, e, push_cast, Nat.reduceAdd, Nat.reduceMul, Nat.reduceSub, Nat.reduceLT, Nat.reduceLeDiff, Nat.reduceEqDiff, Nat.reducePow, Int.reduceToNat, Int.reduceLT, Int.reduceLE, Int.reduceNeg, Int.reduceEq, Int.reducePow, reduceIte, reduceCtorEq, Int.reduceMul, Int.reduceAdd, Int.reduceSub, Int.reduceMod, Int.reduceDiv, Int.reduceTDiv, Int.reduceTMod, iter_s]
    exact ⟨_, rfl, _, _, rfl, hF, rfl, ⟨rfl, rfl, rfl, rfl, rfl⟩, rfl⟩
theorem beh_last (K : Nat) (h : List Row) (hd od : List LV) (L : List Dn) (sees : Bool) (base : Nat → Bool) (i : Nat) (s : St)
    (hs : S32 h hd od L i base (fun T => P32 h L.length i sees T ∧ getT T 9 = .i i) i s) :
    ∃ s', evCode (evF cm K) K 0 c32b1 (cleanN fg32b s) = some (.exit 2, s') ∧ S32 h hd od L i base (fun T => P32 h L.length i sees T) i s' := by
  obtain ⟨T, hh, rfl, F, hT, ⟨t2, t3, t4, t7, t8⟩, t9⟩ := hs
  rw [tl97 hT]
  have g1 : ¬ (i : Int) < (i : Int) := by omega
  simp -implicitDefEqProofs only [c32b1, fg32b, t2, t3, t4, t7, t8, t9, g1, push_cast, Nat.reduceAdd, Nat.reduceMul, Nat.reduceSub, Nat.reduceLT, Nat.reduceLeDiff, Nat.reduceEqDiff, Nat.reducePow, Int.reduceToNat, Int.reduceLT, Int.reduceLE, Int.reduceNeg, Int.reduceEq, Int.reducePow, reduceIte, reduceCtorEq, Int.reduceMul, Int.reduceAdd, Int.reduceSub, Int.reduceMod, Int.reduceDiv, Int.reduceTDiv, Int.reduceTMod, iter_s]
  exact ⟨_, rfl, _, hh, rfl, F, rfl, rfl, rfl, rfl, rfl, rfl⟩
def P33 (h : List Row) (n i : Nat) (T : List LV) : Prop := getT T 3 = .p h.length 0 0 ∧ getT T 7 = .sl (h.length + 2) 0 0 n 1 n ∧ getT T 10 = .i i
theorem beh_round0 (K : Nat) (h : List Row) (th na np nl : Int) (L : List Dn) (cl : List (Int × Int × Int)) (LS CS : LV) {P : Nat → Prop} (H : HAll h P L cl LS CS) (od : List LV) (base : Nat → Bool) (i : Nat) (hi : i < L.length) (k : Nat) (s : St) (hk : k < i)
    (hs : S32 h [.i th, .i na, .i np, .i nl, LS, CS] od L i base (fun T => P33 h L.length i T ∧ getT T 11 = .i k) k s) :
    ∃ s', evCode (evF cm K) K 0 c32b0 (cleanN fg32a s) = some (.nrm, s') ∧ S32 h [.i th, .i na, .i np, .i nl, LS, CS] od L i base (fun T => P33 h L.length i T ∧ getT T 11 = .i ((k + 1 : Nat) : Int)) (k + 1) s' := by
  obtain ⟨T, hh, rfl, F, hT, ⟨t3, t7, t10⟩, t11⟩ := hs
  rw [tl97 hT]
  have hn := H.n
  obtain ⟨kk, v, b, hls, hr, hb, hbl⟩ := H.at' hi
  subst hls
  have g1 : (k : Int) < (i : Int) := by omega
  have g2 : (0 : Int) ≤ (k : Int) := by omega
  have g3 : (k : Int) < (L.length : Int) := by omega
  have g4 : (0 : Int) ≤ (i : Int) := by omega
  have g5 : (i : Int) < (L.length : Int) := by omega
  have w1 : IntKind.i64.wrap ((k : Int) + 1) = (k : Int) + 1 := w64 _ (by omega) (by omega)
  have r0 := F.r0
  have r2 := F.r2
  have r3 := F.x.row hr
  have r4 := F.x.row hb
  obtain ⟨-, -, -, q5, -, -⟩ := dCells_get (b := b) (L := L) hi
  have b1 := bv_get (f := gI L i base k) (show k < L.length by omega)
  have b2 := fun x => bput (f := gI L i base k) (x := x) (show k < L.length by omega)
  have b3 : k + 1 ≤ (bv L.length (gI L i base k)).length := by rw [bv_length]; omega
  have b4 : (bools (dn L i).bf)[k]? = some (.b (bfAt L i k)) := bools_get (by omega)
  have hF := F.put (upd (gI L i base k) k (gI L i base k k || bfAt L i k))
  rw [gI_succ] at hF
  cases hg : gI L i base k k with
  | true =>
    rw [hg] at b1
    have e : upd (gI L i base k) k true = gI L i base (k + 1) := by rw [← gI_succ, hg]; rfl
    simp -implicitDefEqProofs only [c32b0, fg32a, t3, t7, t10, t11, g1, g2, g3, g4, g5, w1, r0, r2, r3, r4, q5, b1, b2, b3, b4, e, push_cast, Nat.reduceAdd, Nat.reduceMul, Nat.reduceSub, Nat.reduceLT, Nat.reduceLeDiff, Nat.reduceEqDiff, Nat.reducePow, Int.reduceToNat, Int.reduceLT, Int.reduceLE, Int.reduceNeg, Int.reduceEq, Int.reducePow, reduceIte, reduceCtorEq, Int.reduceMul, Int.reduceAdd, Int.reduceSub, Int.reduceMod, Int.reduceDiv, Int.reduceTDiv, Int.reduceTMod, iter_s]
    exact ⟨_, rfl, _, _, rfl, hF, rfl, ⟨rfl, rfl, rfl⟩, rfl⟩
  | false =>
    rw [hg] at b1
    have e : upd (gI L i base k) k (bfAt L i k) = gI L i base (k + 1) := by rw [← gI_succ, hg]; rfl
    simp -implicitDefEqProofs only [c32b0, fg32a, t3, t7, t10, t11, g1, g2, g3, g4, g5, w1, r0, r2, r3, r4, q5, b1, b2, b3, b4, e, push_cast, Nat.reduceAdd, Nat.reduceMul, Nat.reduceSub, Nat.reduceLT, Nat.reduceLeDiff, Nat.reduceEqDiff, Nat.reducePow, Int.reduceToNat, Int.reduceLT, Int.reduceLE, Int.reduceNeg, Int.reduceEq, Int.reducePow, reduceIte, reduceCtorEq, Int.reduceMul, Int.reduceAdd, Int.reduceSub, Int.reduceMod, Int.reduceDiv, Int.reduceTDiv, Int.reduceTMod, iter_s]
    exact ⟨_, rfl, _, _, rfl, hF, rfl, ⟨rfl, rfl, rfl⟩, rfl⟩
theorem beh_last0 (K : Nat) (h : List Row) (hd od : List LV) (L : List Dn) (base : Nat → Bool) (i : Nat) (s : St)
    (hs : S32 h hd od L i base (fun T => P33 h L.length i T ∧ getT T 11 = .i i) i s) :
    ∃ s', evCode (evF cm K) K 0 c32b0 (cleanN fg32a s) = some (.exit 4, s') ∧ S32 h hd od L i base (fun T => P33 h L.length i T) i s' := by
  obtain ⟨T, hh, rfl, F, hT, ⟨t3, t7, t10⟩, t11⟩ := hs
  rw [tl97 hT]
  have g1 : ¬ (i : Int) < (i : Int) := by omega
  simp -implicitDefEqProofs only [c32b0, fg32a, t3, t7, t10, t11, g1, push_cast, Nat.reduceAdd, Nat.reduceMul, Nat.reduceSub, Nat.reduceLT, Nat.reduceLeDiff, Nat.reduceEqDiff, Nat.reducePow, Int.reduceToNat, Int.reduceLT, Int.reduceLE, Int.reduceNeg, Int.reduceEq, Int.reducePow, reduceIte, reduceCtorEq, Int.reduceMul, Int.reduceAdd, Int.reduceSub, Int.reduceMod, Int.reduceDiv, Int.reduceTDiv, Int.reduceTMod, iter_s]
  exact ⟨_, rfl, _, hh, rfl, F, rfl, rfl, rfl, rfl⟩
/-! ### all of a thread -/
def fg32c : List Nat := [22, 21, 40, 39, 58, 57, 56, 55, 54, 53, 52, 51, 50, 49, 48, 47, 46, 45, 44, 43, 42, 41, 38, 37, 36, 35, 34, 33, 32, 31, 30, 29, 28, 27, 26, 25, 24, 23, 20, 19, 18, 17, 16]
def T32 (h : List Row) (hd od : List LV) (L : List Dn) (t : Int) (sees : Bool) (i : Nat) (s : St) : Prop := ∃ T hh, s = (T, hh) ∧ Fb h hh hd od L.length (bhT L t i) ∧ T.length = 97 ∧ P32 h L.length i sees T
theorem beh_outer (K : Nat) (hK : 70 ≤ K) (h : List Row) (th na np nl : Int) (L : List Dn) (cl : List (Int × Int × Int)) (LS CS : LV) {P : Nat → Prop} (H : HAll h P L cl LS CS) (kd t a o n : Int) (sees : Bool) (i : Nat) (s : St) (hi : i < L.length)
    (hs : T32 h [.i th, .i na, .i np, .i nl, LS, CS] [.i kd, .i t, .i a, .i o, .i n] L t sees i s) :
    ∃ s', evCode (evF cm K) K 0 c32b2 (cleanN fg32c s) = some (.nrm, s') ∧ T32 h [.i th, .i na, .i np, .i nl, LS, CS] [.i kd, .i t, .i a, .i o, .i n] L t sees (i + 1) s' := by
  obtain ⟨T, hh, rfl, F, hT, t2, t3, t4, t7, t8⟩ := hs
  rw [tl97 hT]
  have hn := H.n
  obtain ⟨kk, v, b, hls, hr, hb, hbl⟩ := H.at' hi
  have g4 : (0 : Int) ≤ (i : Int) := by omega
  have g5 : (i : Int) < (L.length : Int) := by omega
  have w1 : IntKind.i64.wrap ((i : Int) + 1) = (i : Int) + 1 := w64 _ (by omega) (by omega)
  have r0 := F.r0
  have r1 := F.r1
  have r2 := F.r2
  have r3 := F.x.row hr
  obtain ⟨-, q1, -, -, -, -⟩ := dCells_get (b := b) (L := L) hi
  have hsu := bhT_succ L t i
  have b2 := fun x => bput (f := bhT L t i) (x := x) hi
  have b3 : i + 1 ≤ (bv L.length (bhT L t i)).length := by rw [bv_length]; omega
  by_cases hc : (dn L i).t = t
  · have key : ∀ s I, iter (evCode (evF cm K) K 0 c32b1) (cleanN fg32b) K s = I → S32 h [.i th, .i na, .i np, .i nl, LS, CS] [.i kd, .i t, .i a, .i o, .i n] L i (upd (bhT L t i) i true) (fun T => P32 h L.length i sees T ∧ getT T 9 = .i (0 : Nat)) 0 s →
        ∃ s', I = some (.exit 2, s') ∧ S32 h [.i th, .i na, .i np, .i nl, LS, CS] [.i kd, .i t, .i a, .i o, .i n] L i (upd (bhT L t i) i true) (fun T => P32 h L.length i sees T) i s' := by
      intro s I hI hs
      obtain ⟨s', h1, h2⟩ := iter_count (S := fun k s => S32 h [.i th, .i na, .i np, .i nl, LS, CS] [.i kd, .i t, .i a, .i o, .i n] L i (upd (bhT L t i) i true) (fun T => P32 h L.length i sees T ∧ getT T 9 = .i (k : Nat)) k s)
        (fun k s hk hs => beh_round K h th na np nl L cl LS CS H _ sees _ i hi k s hk hs) (fun s hs => beh_last K h _ _ L sees _ i s hs) i 0 s K (by omega) (by omega) hs
      exact ⟨s', hI.symm.trans h1, h2⟩
    subst hls
    simp -implicitDefEqProofs only [c32b2, fg32c, t2, t3, t4, t7, t8, g4, g5, r0, r1, r2, r3, q1, hc, b2, b3, push_cast, Nat.reduceAdd, Nat.reduceMul, Nat.reduceSub, Nat.reduceLT, Nat.reduceLeDiff, Nat.reduceEqDiff, Nat.reducePow, Int.reduceToNat, Int.reduceLT, Int.reduceLE, Int.reduceNeg, Int.reduceEq, Int.reducePow, reduceIte, reduceCtorEq, Int.reduceMul, Int.reduceAdd, Int.reduceSub, Int.reduceMod, Int.reduceDiv, Int.reduceTDiv, Int.reduceTMod]
    generalize hI : iter _ _ _ _ = I
    obtain ⟨s', hI2, T', hh', rfl, F', hT', t2', t3', t4', t7', t8'⟩ := key _ _ hI ⟨_, _, rfl, (F.put (upd (bhT L t i) i true)).congr fun j _ => by simp [gI], rfl, ⟨rfl, rfl, rfl, rfl, rfl⟩, rfl⟩
    subst hI2
    clear hI
    rw [tl97 hT']
    simp -implicitDefEqProofs only [t2', t3', t4', t7', t8', w1, push_cast, Nat.reduceAdd, Nat.reduceMul, Nat.reduceSub, Nat.reduceLT, Nat.reduceLeDiff, Nat.reduceEqDiff, Nat.reducePow, Int.reduceToNat, Int.reduceLT, Int.reduceLE, Int.reduceNeg, Int.reduceEq, Int.reducePow, reduceIte, reduceCtorEq, Int.reduceMul, Int.reduceAdd, Int.reduceSub, Int.reduceMod, Int.reduceDiv, Int.reduceTDiv, Int.reduceTMod]
    refine ⟨_, rfl, _, hh', rfl, F'.congr fun j _ => ?_, rfl, rfl, rfl, rfl, rfl, rfl⟩
    rw [hsu]
    unfold gI
    by_cases hj : j = i
    · subst hj; simp [upd_same, hc]
    · rw [upd_ne _ _ hj]; simp [hc, hj]
  · subst hls
    simp -implicitDefEqProofs only [c32b2, fg32c, t2, t3, t4, t7, t8, g4, g5, r0, r1, r2, r3, q1, hc, w1, push_cast, Nat.reduceAdd, Nat.reduceMul, Nat.reduceSub, Nat.reduceLT, Nat.reduceLeDiff, Nat.reduceEqDiff, Nat.reducePow, Int.reduceToNat, Int.reduceLT, Int.reduceLE, Int.reduceNeg, Int.reduceEq, Int.reducePow, reduceIte, reduceCtorEq, Int.reduceMul, Int.reduceAdd, Int.reduceSub, Int.reduceMod, Int.reduceDiv, Int.reduceTDiv, Int.reduceTMod]
    refine ⟨_, rfl, _, hh, rfl, F.congr fun j _ => ?_, rfl, rfl, rfl, rfl, rfl, rfl⟩
    rw [hsu]; simp [hc]
theorem beh_outlast (K : Nat) (h : List Row) (th na np nl : Int) (L : List Dn) (cl : List (Int × Int × Int)) (LS CS : LV) {P : Nat → Prop} (H : HAll h P L cl LS CS) (kd t a o n : Int) (sees : Bool) (s : St)
    (hs : T32 h [.i th, .i na, .i np, .i nl, LS, CS] [.i kd, .i t, .i a, .i o, .i n] L t sees L.length s) :
    ∃ s', evCode (evF cm K) K 0 c32b2 (cleanN fg32c s) = some (.exit 0, s') ∧ T32 h [.i th, .i na, .i np, .i nl, LS, CS] [.i kd, .i t, .i a, .i o, .i n] L t sees L.length s' := by
  obtain ⟨T, hh, rfl, F, hT, t2, t3, t4, t7, t8⟩ := hs
  rw [tl97 hT]
  have g1 : ¬ (L.length : Int) < (L.length : Int) := by omega
  have r0 := F.r0
  have hl := H.l.len
  simp -implicitDefEqProofs only [c32b2, fg32c, t2, t3, t4, t7, t8, r0, hl, g1, push_cast, Nat.reduceAdd, Nat.reduceMul, Nat.reduceSub, Nat.reduceLT, Nat.reduceLeDiff, Nat.reduceEqDiff, Nat.reducePow, Int.reduceToNat, Int.reduceLT, Int.reduceLE, Int.reduceNeg, Int.reduceEq, Int.reducePow, reduceIte, reduceCtorEq, Int.reduceMul, Int.reduceAdd, Int.reduceSub, Int.reduceMod, Int.reduceDiv, Int.reduceTDiv, Int.reduceTMod]
  exact ⟨_, rfl, _, hh, rfl, F, rfl, rfl, rfl, rfl, rfl, rfl⟩
theorem behind_ok (k : Nat) (h : List Row) (hne : h.isEmpty = false) (th na np nl : Int) (L : List Dn) (cl : List (Int × Int × Int)) (LS CS : LV) {P : Nat → Prop} (H : HAll h P L cl LS CS) (kd t a o n : Int) (sees : Bool) :
    ∃ h', evF cm (k + 90) 32 [HV th na np nl LS CS, .agg [.i kd, .i t, .i a, .i o, .i n], .b sees] h 0 = some (.sl (h.length + 2) 0 0 L.length 1 L.length, h') ∧ Ext h h' ∧ rowOf h' (h.length + 2) 0 = some (bools (behind L t (lastW L kd a) sees)) := by
  have hn := H.n
  have hLa := H.l.atm
  have hCa := H.c.atm
  have hl := H.l.len
  have rz := repC_bv false L.length
  have g1 : (L.length : Int) ≤ 9223372036854775807 := by omega
  have g2 : L.length ≤ 140737488355328 := by omega
  have g3 : (0 : Int) ≤ (L.length : Int) := by omega
  have hl1 : ∀ x : Row, (h ++ [x]).length = h.length + 1 := fun x => by simp
  have hl2 : ∀ x y : Row, (h ++ [x, y]).length = h.length + 2 := fun x y => by simp
  have rb : ∀ cs y, rowOf (h ++ [⟨0, cs⟩, y]) h.length 0 = some cs := fun cs y => rowOf_app_eq
  have F0 : Fb h (h ++ [⟨0, [.i th, .i na, .i np, .i nl, LS, CS]⟩, ⟨0, [.i kd, .i t, .i a, .i o, .i n]⟩, ⟨0, bv L.length fun _ => false⟩]) [.i th, .i na, .i np, .i nl, LS, CS] [.i kd, .i t, .i a, .i o, .i n] L.length (bhT L t 0) := by
    refine ⟨Ext.app _ _, rowOf_app_eq, ?_, ?_⟩
    · refine rowOf_at ?_
      rw [List.getElem?_append_right (by omega), show h.length + 1 - h.length = 1 by omega]; rfl
    · refine rowOf_at ?_
      rw [List.getElem?_append_right (by omega), show h.length + 2 - h.length = 2 by omega]
      have e : (fun _ => false) = bhT L t 0 := by funext j; simp [bhT]
      rw [← e]; rfl
  have key : ∀ s I, iter (evCode (evF cm (k + 89)) (k + 89) 0 c32b2) (cleanN fg32c) (k + 89) s = I → T32 h [.i th, .i na, .i np, .i nl, LS, CS] [.i kd, .i t, .i a, .i o, .i n] L t sees 0 s →
      ∃ s', I = some (.exit 0, s') ∧ T32 h [.i th, .i na, .i np, .i nl, LS, CS] [.i kd, .i t, .i a, .i o, .i n] L t sees L.length s' := by
    intro s I hI hs
    obtain ⟨s', h1, h2⟩ := iter_count (fun i s hi hs => beh_outer (k + 89) (by omega) h th na np nl L cl LS CS H kd t a o n sees i s hi hs) (fun s hs => beh_outlast (k + 89) h th na np nl L cl LS CS H kd t a o n sees s hs) L.length 0 s (k + 89) (by omega) (by omega) hs
    exact ⟨s', hI.symm.trans h1, h2⟩
  rw [evX_fun (m := c32) rfl _ _ _ _ hne rfl]
  simp -implicitDefEqProofs only [c32, HV, hLa.1, hLa.2, hCa.1, hCa.2, hl, rz, g1, g2, g3, hl1, hl2, rb, List.append_assoc, push_cast, Nat.reduceAdd, Nat.reduceMul, Nat.reduceSub, Nat.reduceLT, Nat.reduceLeDiff, Nat.reduceEqDiff, Nat.reducePow, Int.reduceToNat, Int.reduceLT, Int.reduceLE, Int.reduceNeg, Int.reduceEq, Int.reducePow, reduceIte, reduceCtorEq, Int.reduceMul, Int.reduceAdd, Int.reduceSub, Int.reduceMod, Int.reduceDiv, Int.reduceTDiv, Int.reduceTMod]
  generalize hI : iter _ _ _ _ = I
  obtain ⟨s', hI2, T, hh, rfl, F, hT, t2, t3, t4, t7, t8⟩ := key _ _ hI ⟨_, _, rfl, F0, rfl, rfl, rfl, rfl, rfl, rfl⟩
  subst hI2
  clear hI
  have H1 := H.ext F.x
  obtain ⟨h2, e2, x2⟩ := (last_call (k + 9) 0 _ th na np nl L cl LS CS H1 kd a).2 (Nat.zero_le _)
  simp only [HV] at e2
  have F2 := F.ext x2
  have H2 := H1.ext x2
  have r0 := F.r0
  have r1 := F.r1
  have hlw := lastW_lt L kd a
  rw [tl97 hT]
  have done : ∀ f, (∀ j, j < L.length → f j = (bhT L t L.length j || sees && bhW L (lastW L kd a) j)) → bv L.length f = bools (behind L t (lastW L kd a) sees) := fun f hf => by
    rw [bv_congr hf, bv_bools]; rfl
  cases hse : sees with
  | false =>
    subst hse
    simp -implicitDefEqProofs only [t2, t3, t4, t7, t8, r0, r1, e2, push_cast, Nat.reduceAdd, Nat.reduceMul, Nat.reduceSub, Nat.reduceLT, Nat.reduceLeDiff, Nat.reduceEqDiff, Nat.reducePow, Int.reduceToNat, Int.reduceLT, Int.reduceLE, Int.reduceNeg, Int.reduceEq, Int.reducePow, reduceIte, reduceCtorEq, Int.reduceMul, Int.reduceAdd, Int.reduceSub, Int.reduceMod, Int.reduceDiv, Int.reduceTDiv, Int.reduceTMod]
    refine ⟨h2, rfl, F2.x, ?_⟩
    rw [F2.r2, done]
    intro j _; simp
  | true =>
    subst hse
    by_cases hw : 0 ≤ lastW L kd a
    · obtain ⟨w, hwe⟩ : ∃ w : Nat, lastW L kd a = w := ⟨(lastW L kd a).toNat, by omega⟩
      have hwl : w < L.length := by omega
      rw [hwe] at e2 done ⊢
      have k1 : (0 : Int) ≤ (w : Int) := by omega
      have k2 : (w : Int) < (L.length : Int) := by omega
      have s2 := F2.r2
      have b2 := fun x => bput (f := bhT L t L.length) (x := x) hwl
      have b3 : w + 1 ≤ (bv L.length (bhT L t L.length)).length := by rw [bv_length]; omega
      have key0 : ∀ s I, iter (evCode (evF cm (k + 89)) (k + 89) 0 c32b0) (cleanN fg32a) (k + 89) s = I → S32 h [.i th, .i na, .i np, .i nl, LS, CS] [.i kd, .i t, .i a, .i o, .i n] L w (upd (bhT L t L.length) w true) (fun T => P33 h L.length w T ∧ getT T 11 = .i (0 : Nat)) 0 s →
          ∃ s', I = some (.exit 4, s') ∧ S32 h [.i th, .i na, .i np, .i nl, LS, CS] [.i kd, .i t, .i a, .i o, .i n] L w (upd (bhT L t L.length) w true) (fun T => P33 h L.length w T) w s' := by
        intro s I hI hs
        obtain ⟨s', h1, h2⟩ := iter_count (S := fun k s => S32 h [.i th, .i na, .i np, .i nl, LS, CS] [.i kd, .i t, .i a, .i o, .i n] L w (upd (bhT L t L.length) w true) (fun T => P33 h L.length w T ∧ getT T 11 = .i (k : Nat)) k s)
          (fun j s hk hs => beh_round0 (k + 89) h th na np nl L cl LS CS H _ _ w hwl j s hk hs) (fun s hs => beh_last0 (k + 89) h _ _ L _ w s hs) w 0 s (k + 89) (by omega) (by omega) hs
        exact ⟨s', hI.symm.trans h1, h2⟩
      simp -implicitDefEqProofs only [t2, t3, t4, t7, t8, r0, r1, e2, k1, k2, s2, b2, b3, push_cast, Nat.reduceAdd, Nat.reduceMul, Nat.reduceSub, Nat.reduceLT, Nat.reduceLeDiff, Nat.reduceEqDiff, Nat.reducePow, Int.reduceToNat, Int.reduceLT, Int.reduceLE, Int.reduceNeg, Int.reduceEq, Int.reducePow, reduceIte, reduceCtorEq, Int.reduceMul, Int.reduceAdd, Int.reduceSub, Int.reduceMod, Int.reduceDiv, Int.reduceTDiv, Int.reduceTMod]
      generalize hI : iter _ _ _ _ = I
      obtain ⟨s', hI2, T', hh', rfl, F', hT', t3', t7', t10'⟩ := key0 _ _ hI ⟨_, _, rfl, (F2.put (upd (bhT L t L.length) w true)).congr fun j _ => by simp [gI], rfl, ⟨rfl, rfl, rfl⟩, rfl⟩
      subst hI2
      clear hI
      rw [tl97 hT']
      simp -implicitDefEqProofs only [t3', t7', t10', push_cast, Nat.reduceAdd, Nat.reduceMul, Nat.reduceSub, Nat.reduceLT, Nat.reduceLeDiff, Nat.reduceEqDiff, Nat.reducePow, Int.reduceToNat, Int.reduceLT, Int.reduceLE, Int.reduceNeg, Int.reduceEq, Int.reducePow, reduceIte, reduceCtorEq, Int.reduceMul, Int.reduceAdd, Int.reduceSub, Int.reduceMod, Int.reduceDiv, Int.reduceTDiv, Int.reduceTMod]
      refine ⟨hh', rfl, F'.x, ?_⟩
      rw [F'.r2, done]
      intro j _
      unfold gI bhW
      rw [Int.toNat_natCast, decide_eq_true k1]
      by_cases hj : j = w
      · subst hj; simp [upd_same]
      · rw [upd_ne _ _ hj]
        have : ¬ (j : Int) = (w : Int) := by omega
        have e : decide ((j : Int) < (w : Int)) = decide (j < w) := by rw [decide_eq_decide]; omega
        rw [decide_eq_false this, e]
        simp
    · simp -implicitDefEqProofs only [t2, t3, t4, t7, t8, r0, r1, e2, hw, push_cast, Nat.reduceAdd, Nat.reduceMul, Nat.reduceSub, Nat.reduceLT, Nat.reduceLeDiff, Nat.reduceEqDiff, Nat.reducePow, Int.reduceToNat, Int.reduceLT, Int.reduceLE, Int.reduceNeg, Int.reduceEq, Int.reducePow, reduceIte, reduceCtorEq, Int.reduceMul, Int.reduceAdd, Int.reduceSub, Int.reduceMod, Int.reduceDiv, Int.reduceTDiv, Int.reduceTMod]
      refine ⟨h2, rfl, F2.x, ?_⟩
      rw [F2.r2, done]
      intro j _
      simp [bhW, hw]
end Go.Proofs.Ytlbcandecifkcaa
