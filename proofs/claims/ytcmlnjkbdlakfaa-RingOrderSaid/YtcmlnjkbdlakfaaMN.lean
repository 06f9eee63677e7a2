/- A memory is made, as the evaluator answers. -/
import Derived.Test.YtcmlnjkbdlakfaaMP
set_option linter.unusedSimpArgs false
set_option linter.unusedVariables false
set_option maxRecDepth 100000
set_option maxHeartbeats 16000000
namespace Go.Proofs.Ytcmlnjkbdlakfaa
open Go
theorem clCells_noim : ∀ l, noimL (clCells l) = true
  | [] => rfl
  | c :: l => by simp [clCells, noimL, noim, clCells_noim l]
theorem clCells_shLs (n : Nat) : ∀ l, shLs n (clCells l) = clCells l
  | [] => rfl
  | c :: l => by simp [clCells, shLs, shL, clCells_shLs n l]
/-! ### New -/
theorem tl76 {T : List LV} (h : T.length = 76) : T = [getT T 0, getT T 1, getT T 2, getT T 3, getT T 4, getT T 5, getT T 6, getT T 7, getT T 8, getT T 9, getT T 10, getT T 11, getT T 12, getT T 13, getT T 14, getT T 15, getT T 16, getT T 17, getT T 18, getT T 19, getT T 20, getT T 21, getT T 22, getT T 23, getT T 24, getT T 25, getT T 26, getT T 27, getT T 28, getT T 29, getT T 30, getT T 31, getT T 32, getT T 33, getT T 34, getT T 35, getT T 36, getT T 37, getT T 38, getT T 39, getT T 40, getT T 41, getT T 42, getT T 43, getT T 44, getT T 45, getT T 46, getT T 47, getT T 48, getT T 49, getT T 50, getT T 51, getT T 52, getT T 53, getT T 54, getT T 55, getT T 56, getT T 57, getT T 58, getT T 59, getT T 60, getT T 61, getT T 62, getT T 63, getT T 64, getT T 65, getT T 66, getT T 67, getT T 68, getT T 69, getT T 70, getT T 71, getT T 72, getT T 73, getT T 74, getT T 75] := tlT h
def rowN : Tg → Nat
  | .atoms => 0
  | .plains => 1
  | .locks => 2
  | .mem => 3
  | .clks => 5
  | .clk t => if t = 0 then 4 else t + 5
  | _ => 0
def liveN (i : Nat) : Tg → Prop
  | .clk t => t < i
  | .clks => 0 < i
  | .mem => True
  | .atoms => True
  | .plains => True
  | .locks => True
  | _ => False
def contN (n na np nl i j : Nat) : Tg → Row
  | .mem => ⟨0, [outG 1 5 i, .sl 0 0 0 na 2 na, .sl 1 0 0 np 2 np, .sl 2 0 0 nl 2 nl, .nils, .i 0]⟩
  | .clks => ⟨i - 1, (List.range i).map fun t => vs (rowN (.clk t)) n⟩
  | .clk t => ⟨0, vec n fun _ => 0⟩
  | .atoms => ⟨0, prs na (fun _ => .i 0) fun _ => .nils⟩
  | .plains => ⟨0, prs np (fun _ => .nils) fun _ => .nils⟩
  | .locks => ⟨0, prs nl (fun l => .i (if l < j then -1 else 0)) fun _ => .nils⟩
  | _ => ⟨0, []⟩
def fgN1 : List Nat := [58, 57, 56, 55, 54, 53, 52, 51, 50, 49, 48, 47, 46]
def SN1 (n na np nl : Nat) (i : Nat) (s : St) : Prop := ∃ T h, s = (T, h) ∧ h.length = (if i = 0 then 4 else i + 5) ∧ HAt h (liveN i) rowN (contN n na np nl i 0) ∧ T.length = 76 ∧ getT T 0 = .i n ∧ getT T 12 = .p 3 0 0 ∧ getT T 44 = .i n ∧ getT T 45 = .i i
theorem app1_0 {h : List Row} {a x : Row} : (h ++ [a]).set h.length x = h ++ [x] := by
  rw [List.set_append_right _ _ (Nat.le_refl _), Nat.sub_self]; rfl
theorem new_round1 (K : Nat) (n na np nl : Nat) (hn : n ≤ 80) (i : Nat) (s : St) (hi : i < n) (hs : SN1 n na np nl i s) :
    ∃ s', evCode (evF cm K) K 0 c8b1 (cleanN fgN1 s) = some (.nrm, s') ∧ SN1 n na np nl (i + 1) s' := by
  obtain ⟨T, h, rfl, hl, H, hT, t0, t12, t44, t45⟩ := hs
  rw [tl76 hT]
  have g1 : (i : Int) < (n : Int) := by omega
  have w1 : IntKind.i64.wrap ((i : Int) + 1) = (i : Int) + 1 := w64 _ (by omega) (by omega)
  have hz := repC_vec 0 n
  have nn1 : n ≤ 9223372036854775807 := by omega
  have nn2 : n * 8 ≤ 140737488355328 := by omega
  have nn3 : (n : Int) ≤ 9223372036854775807 := by omega
  have nn4 : (0 : Int) ≤ (n : Int) := by omega
  have k1 := rowOf_at (H.at' .mem trivial)
  have lt1 : 3 < h.length := H.lt (τ := .mem) trivial
  have ra : ∀ x, rowOf (h ++ [x]) 3 0 = rowOf h 3 0 := fun x => rowOf_app_lt lt1
  simp only [rowN, contN] at k1
  cases i with
  | zero =>
    simp only [if_true] at hl
    have rb : ∀ x y, rowOf (h ++ [x, y]) 3 0 = rowOf h 3 0 := fun x y => rowOf_app_lt lt1
    have hl1 : ∀ x : Row, (h ++ [x]).length = 5 := fun x => by simp [hl]
    have a0 : ∀ a x : Row, (h ++ [a]).set 4 x = h ++ [x] := fun a x => by rw [← hl]; exact app1_0
    have g0 : (0 : Int) < (n : Int) := by omega
    have w0 : IntKind.i64.wrap (0 + 1) = 1 := by decide
    have q1 : ∀ a x y : Row, turnK (h ++ [a]) (h ++ [x, y]) 3 = true → turnK (h ++ [a]) (h ++ [x, y]) 3 = true := fun _ _ _ h => h
    simp -implicitDefEqProofs only [c8b1, fgN1, t0, t12, t44, t45, g0, w0, hz, nn1, nn2, nn3, nn4, k1, ra, rb, outG, a0, hl, hl1, List.append_assoc, push_cast, Nat.reduceAdd, Nat.reduceMul, Nat.reduceSub, Nat.reduceLT, Nat.reduceLeDiff, Nat.reduceEqDiff, Nat.reducePow, Int.reduceToNat, Int.reduceLT, Int.reduceLE, Int.reduceNeg, Int.reduceEq, Int.reducePow, reduceIte, reduceCtorEq, Int.reduceMul, Int.reduceAdd, Int.reduceSub, Int.reduceMod, Int.reduceDiv, Int.reduceTDiv, Int.reduceTMod, iter_s]
    have H1 := ((H.push (.clk 0) ⟨0, vec n fun _ => 0⟩).push .clks ⟨0, [.sl 4 0 0 n 1 n]⟩).put .mem (.inr (.inr trivial)) ⟨0, [.sl 5 0 0 1 1 1, .sl 0 0 0 na 2 na, .sl 1 0 0 np 2 np, .sl 2 0 0 nl 2 nl, .nils, .i 0]⟩
    rw [List.append_assoc] at H1
    refine ⟨_, rfl, _, _, rfl, ?_, H1.cast fun τ hτ => ?_, rfl, rfl, rfl, rfl, rfl⟩
    · simp [hl]
    · cases τ with
      | clk t =>
        obtain rfl : t = 0 := by have : t < 1 := hτ; omega
        refine ⟨.inr (.inl rfl), ?_, rfl⟩
        simp [setC, rowN, hl]
      | clks => exact ⟨.inl rfl, by simp [setC, rowN, hl], rfl⟩
      | mem => exact ⟨.inr (.inr trivial), rfl, rfl⟩
      | atoms => exact ⟨.inr (.inr trivial), rfl, rfl⟩
      | plains => exact ⟨.inr (.inr trivial), rfl, rfl⟩
      | locks => exact ⟨.inr (.inr trivial), rfl, rfl⟩
      | _ => exact hτ.elim
  | succ i =>
    have hl' : h.length = i + 6 := by rw [if_neg (by omega)] at hl; omega
    have k2 := rowOf_at (H.at' .clks (Nat.succ_pos i))
    simp only [rowN, contN, Nat.add_sub_cancel] at k2
    have lt2 : 5 < h.length := H.lt (τ := .clks) (Nat.succ_pos i)
    have rb : ∀ x, rowOf (h ++ [x]) 5 i = rowOf h 5 i := fun x => rowOf_app_lt lt2
    have rc : ∀ x y, rowOf ((h ++ [x]).set 5 y) 3 0 = rowOf h 3 0 := fun x y => by rw [rowOf_set_ne (by omega), rowOf_app_lt lt1]
    have k3 : ((List.range (i + 1)).map fun t => vs (if t = 0 then 4 else t + 5) n).length = (i + 1) * 1 := by simp
    have g5 : i + 1 + 1 ≤ 9223372036854775807 := by omega
    have g6 : (i + 1 + 1) * 24 ≤ 140737488355328 := by omega
    have g7 : ¬ i + 1 + 1 ≤ i + 1 := by omega
    have a0 : ∀ a x : Row, (h ++ [a]).set (i + 6) x = h ++ [x] := fun a x => by rw [← hl']; exact app1_0
    have g8 : (i : Int) + 1 < (n : Int) := by omega
    have w2 : IntKind.i64.wrap ((i : Int) + 1 + 1) = (i : Int) + 1 + 1 := w64 _ (by omega) (by omega)
    simp -implicitDefEqProofs only [c8b1, fgN1, t0, t12, t44, t45, g8, w2, hz, nn1, nn2, nn3, nn4, k1, k2, k3, g5, g6, g7, ra, rb, rc, outG, a0, hl', List.append_assoc, push_cast, Nat.reduceAdd, Nat.reduceMul, Nat.reduceSub, Nat.reduceLT, Nat.reduceLeDiff, Nat.reduceEqDiff, Nat.reducePow, Int.reduceToNat, Int.reduceLT, Int.reduceLE, Int.reduceNeg, Int.reduceEq, Int.reducePow, reduceIte, reduceCtorEq, Int.reduceMul, Int.reduceAdd, Int.reduceSub, Int.reduceMod, Int.reduceDiv, Int.reduceTDiv, Int.reduceTMod, iter_s]
    have H1 := (((H.push (.clk (i + 1)) ⟨0, vec n fun _ => 0⟩).put .clks (.inr (Nat.succ_pos i)) ⟨i + 1, ((List.range (i + 1)).map fun t => vs (if t = 0 then 4 else t + 5) n) ++ [vs (i + 6) n]⟩)).put .mem (.inr trivial) ⟨0, [.sl 5 (i + 1) 0 (i + 1 + 1) 1 (i + 1 + 1), .sl 0 0 0 na 2 na, .sl 1 0 0 np 2 np, .sl 2 0 0 nl 2 nl, .nils, .i 0]⟩
    refine ⟨_, rfl, _, _, rfl, ?_, H1.cast fun τ hτ => ?_, rfl, rfl, rfl, rfl, rfl⟩
    · simp [hl']
    · cases τ with
      | clk t =>
        by_cases ht : t = i + 1
        · subst ht
          refine ⟨.inl rfl, ?_, ?_⟩
          · rw [setC_eq, hl']; simp [rowN]
          · rw [setC_ne _ _ (by simp), setC_ne _ _ (by simp), setC_eq]; rfl
        · refine ⟨.inr (by have : t < i + 1 + 1 := hτ; show t < i + 1; omega), ?_, ?_⟩
          · rw [setC_ne _ _ (by simpa using ht)]
          · rw [setC_ne _ _ (by simp), setC_ne _ _ (by simp), setC_ne _ _ (by simpa using ht)]; rfl
      | clks =>
        refine ⟨.inr (Nat.succ_pos i), rfl, ?_⟩
        rw [setC_ne _ _ (by simp), setC_eq]
        simp only [contN, Nat.add_sub_cancel]
        rw [List.range_succ (n := i + 1), List.map_append]
        simp [rowN]
      | mem => exact ⟨.inr trivial, rfl, rfl⟩
      | atoms => exact ⟨.inr trivial, rfl, rfl⟩
      | plains => exact ⟨.inr trivial, rfl, rfl⟩
      | locks => exact ⟨.inr trivial, rfl, rfl⟩
      | _ => exact hτ.elim
theorem new_last1 (K : Nat) (n na np nl : Nat) (s : St) (hs : SN1 n na np nl n s) :
    ∃ s', evCode (evF cm K) K 0 c8b1 (cleanN fgN1 s) = some (.exit 2, s') ∧ SN1 n na np nl n s' := by
  obtain ⟨T, h, rfl, hl, H, hT, t0, t12, t44, t45⟩ := hs
  rw [tl76 hT]
  have g1 : ¬ (n : Int) < (n : Int) := by omega
  simp -implicitDefEqProofs only [c8b1, fgN1, t0, t12, t44, t45, g1, push_cast, Nat.reduceAdd, Nat.reduceMul, Nat.reduceSub, Nat.reduceLT, Nat.reduceLeDiff, Nat.reduceEqDiff, Nat.reducePow, Int.reduceToNat, Int.reduceLT, Int.reduceLE, Int.reduceNeg, Int.reduceEq, Int.reducePow, reduceIte, reduceCtorEq, Int.reduceMul, Int.reduceAdd, Int.reduceSub, Int.reduceMod, Int.reduceDiv, Int.reduceTDiv, Int.reduceTMod, iter_s]
  exact ⟨_, rfl, _, h, rfl, hl, H, rfl, rfl, rfl, rfl, rfl⟩
/-! locks are free -/
def fgN0 : List Nat := [74, 73, 72, 71, 70, 69, 68, 67, 66, 65]
def SN0 (n na np nl : Nat) (i : Nat) (s : St) : Prop := ∃ T h, s = (T, h) ∧ h.length = n + 5 ∧ HAt h (liveN n) rowN (contN n na np nl n i) ∧ T.length = 76 ∧ getT T 12 = .p 3 0 0 ∧ getT T 63 = .i nl ∧ getT T 64 = .i i
theorem new_round0 (K : Nat) (n na np nl : Nat) (hn : n ≤ 80) (hl0 : nl ≤ 65536) (i : Nat) (s : St) (hi : i < nl) (hs : SN0 n na np nl i s) :
    ∃ s', evCode (evF cm K) K 0 c8b0 (cleanN fgN0 s) = some (.nrm, s') ∧ SN0 n na np nl (i + 1) s' := by
  obtain ⟨T, h, rfl, hl, H, hT, t12, t63, t64⟩ := hs
  rw [tl76 hT]
  have g1 : (i : Int) < (nl : Int) := by omega
  have w1 : IntKind.i64.wrap ((i : Int) + 1) = (i : Int) + 1 := w64 _ (by omega) (by omega)
  have k1 := rowOf_at (H.at' .mem trivial)
  have k2 := rowOf_at (H.at' .locks trivial)
  simp only [rowN, contN] at k1 k2
  have p1 := fun f g x => prs_put1 (n := nl) (f := f) (g := g) (x := x) hi
  have p2 : ∀ f g, i * 2 + 1 ≤ (prs nl f g).length := fun f g => by rw [prs_length]; omega
  simp -implicitDefEqProofs only [c8b0, fgN0, t12, t63, t64, g1, w1, k1, k2, p1, p2, push_cast, Nat.reduceAdd, Nat.reduceMul, Nat.reduceSub, Nat.reduceLT, Nat.reduceLeDiff, Nat.reduceEqDiff, Nat.reducePow, Int.reduceToNat, Int.reduceLT, Int.reduceLE, Int.reduceNeg, Int.reduceEq, Int.reducePow, reduceIte, reduceCtorEq, Int.reduceMul, Int.reduceAdd, Int.reduceSub, Int.reduceMod, Int.reduceDiv, Int.reduceTDiv, Int.reduceTMod, iter_s]
  have H1 := H.put .locks trivial ⟨0, prs nl (upd (fun l => LV.i (if l < i then -1 else 0)) i (.i (-1))) fun _ => .nils⟩
  refine ⟨_, rfl, _, _, rfl, ?_, H1.cast fun τ hτ => ?_, rfl, rfl, rfl, rfl⟩
  · simp [hl]
  · cases τ with
    | locks =>
      refine ⟨trivial, rfl, ?_⟩
      rw [setC_eq]
      refine congrArg (Row.mk 0) (prs_congr fun j hj => ⟨?_, rfl⟩)
      by_cases hji : j = i
      · subst hji; simp [upd_same]
      · rw [upd_ne _ _ hji]
        by_cases hlt : j < i
        · rw [if_pos hlt, if_pos (by omega)]
        · rw [if_neg hlt, if_neg (by omega)]
    | _ => exact ⟨hτ, rfl, rfl⟩
theorem new_last0 (K : Nat) (n na np nl : Nat) (s : St) (hs : SN0 n na np nl nl s) :
    ∃ s', evCode (evF cm K) K 0 c8b0 (cleanN fgN0 s) = some (.exit 4, s') ∧ SN0 n na np nl nl s' := by
  obtain ⟨T, h, rfl, hl, H, hT, t12, t63, t64⟩ := hs
  rw [tl76 hT]
  have g1 : ¬ (nl : Int) < (nl : Int) := by omega
  simp -implicitDefEqProofs only [c8b0, fgN0, t12, t63, t64, g1, push_cast, Nat.reduceAdd, Nat.reduceMul, Nat.reduceSub, Nat.reduceLT, Nat.reduceLeDiff, Nat.reduceEqDiff, Nat.reducePow, Int.reduceToNat, Int.reduceLT, Int.reduceLE, Int.reduceNeg, Int.reduceEq, Int.reducePow, reduceIte, reduceCtorEq, Int.reduceMul, Int.reduceAdd, Int.reduceSub, Int.reduceMod, Int.reduceDiv, Int.reduceTDiv, Int.reduceTMod, iter_s]
  exact ⟨_, rfl, _, h, rfl, hl, H, rfl, rfl, rfl, rfl⟩
def fgN2 : List Nat := [35, 9, 8, 34, 33, 32, 31, 30, 29, 28, 27, 26]
theorem new_chk (K k : Nat) (T : List LV) (n a b c : Int) (hT : T.length = 76) (t0 : getT T 0 = .i n) (t1 : getT T 1 = .i a) (t2 : getT T 2 = .i b) (t3 : getT T 3 = .i c)
    (t23 : getT T 23 = .im [.i a, .i b, .i c] 3 true) (t24 : getT T 24 = .i 3) (t25 : getT T 25 = .i 0) (ha : ¬ a < 0 ∧ ¬ 65536 < a) (hb : ¬ b < 0 ∧ ¬ 65536 < b) (hc : ¬ c < 0 ∧ ¬ 65536 < c) :
    ∃ T', iter (evCode (evF cm K) K 0 c8b2) (cleanN fgN2) (k + 5) (T, []) = some (.exit 0, (T', [])) ∧ T'.length = 76 ∧ getT T' 0 = .i n ∧ getT T' 1 = .i a ∧ getT T' 2 = .i b ∧ getT T' 3 = .i c := by
  obtain ⟨a1, a2⟩ := ha
  obtain ⟨b1, b2⟩ := hb
  obtain ⟨c1, c2⟩ := hc
  rw [tl76 hT]
  simp -implicitDefEqProofs only [c8b2, fgN2, t0, t1, t2, t3, t23, t24, t25, a1, a2, b1, b2, c1, c2, push_cast, Nat.reduceAdd, Nat.reduceMul, Nat.reduceSub, Nat.reduceLT, Nat.reduceLeDiff, Nat.reduceEqDiff, Nat.reducePow, Int.reduceToNat, Int.reduceLT, Int.reduceLE, Int.reduceNeg, Int.reduceEq, Int.reducePow, reduceIte, reduceCtorEq, Int.reduceMul, Int.reduceAdd, Int.reduceSub, Int.reduceMod, Int.reduceDiv, Int.reduceTDiv, Int.reduceTMod, iter_s]
  exact ⟨_, rfl, rfl, rfl, rfl, rfl, rfl⟩
/-- A memory is made in an empty heap. -/
theorem new_iso (K n na np nl : Nat) (hn : 0 < n) (hn' : n ≤ 80) (ha : na ≤ 65536) (hp : np ≤ 65536) (hl : nl ≤ 65536) (hK : nl + 100 ≤ K) :
    ∃ h, evF cm (K + 1) 8 [.i n, .i na, .i np, .i nl] [] 0 = some (.tup [.p 3 0 0, .i 0], h) ∧ MemAt h (AM.new n na np nl) rowN := by
  have key2 : ∀ s I, iter (evCode (evF cm K) K 0 c8b2) (cleanN fgN2) K s = I → (∃ T, s = (T, []) ∧ T.length = 76 ∧ getT T 0 = .i n ∧ getT T 1 = .i na ∧ getT T 2 = .i np ∧ getT T 3 = .i nl ∧ getT T 23 = .im [.i na, .i np, .i nl] 3 true ∧ getT T 24 = .i 3 ∧ getT T 25 = .i 0) →
      ∃ T', I = some (.exit 0, (T', [])) ∧ T'.length = 76 ∧ getT T' 0 = .i n ∧ getT T' 1 = .i na ∧ getT T' 2 = .i np ∧ getT T' 3 = .i nl := by
    rintro s I hI ⟨T, rfl, h1, h2, h3, h4, h5, h6, h7, h8⟩
    obtain ⟨k, rfl⟩ : ∃ k, K = k + 5 := ⟨K - 5, by omega⟩
    obtain ⟨T', e, h⟩ := new_chk (k + 5) k T n na np nl h1 h2 h3 h4 h5 h6 h7 h8 ⟨by omega, by omega⟩ ⟨by omega, by omega⟩ ⟨by omega, by omega⟩
    exact ⟨T', hI.symm.trans e, h⟩
  have key1 : ∀ s I, iter (evCode (evF cm K) K 0 c8b1) (cleanN fgN1) K s = I → SN1 n na np nl 0 s → ∃ s', I = some (.exit 2, s') ∧ SN1 n na np nl n s' := by
    intro s I hI hs
    obtain ⟨s', h1, h2⟩ := iter_count (fun i s hi hs => new_round1 K n na np nl hn' i s hi hs) (fun s hs => new_last1 K n na np nl s hs) n 0 s K (by omega) (by omega) hs
    exact ⟨s', hI.symm.trans h1, h2⟩
  have key0 : ∀ s I, iter (evCode (evF cm K) K 0 c8b0) (cleanN fgN0) K s = I → SN0 n na np nl 0 s → ∃ s', I = some (.exit 4, s') ∧ SN0 n na np nl nl s' := by
    intro s I hI hs
    obtain ⟨s', h1, h2⟩ := iter_count (fun i s hi hs => new_round0 K n na np nl hn' hl i s hi hs) (fun s hs => new_last0 K n na np nl s hs) nl 0 s K (by omega) (by omega) hs
    exact ⟨s', hI.symm.trans h1, h2⟩
  have g1 : ¬ (n : Int) < 1 := by omega
  have g2 : ¬ (80 : Int) < (n : Int) := by omega
  have ga : (na : Int) ≤ 9223372036854775807 ∧ (0 : Int) ≤ na := by omega
  have gp : (np : Int) ≤ 9223372036854775807 ∧ (0 : Int) ≤ np := by omega
  have gl : (nl : Int) ≤ 9223372036854775807 ∧ (0 : Int) ≤ nl := by omega
  have b1 : na * 32 ≤ 140737488355328 := by omega
  have b2 : np * 48 ≤ 140737488355328 := by omega
  have b3 : nl * 32 ≤ 140737488355328 := by omega
  have z1 := fun m => repC_prs (.i 0) .nils m
  have z2 := fun m => repC_prs .nils .nils m
  rw [evH_fun (m := c8) rfl _ _ _ _ rfl]
  simp -implicitDefEqProofs only [c8, g1, g2, push_cast, Nat.reduceAdd, Nat.reduceMul, Nat.reduceSub, Nat.reduceLT, Nat.reduceLeDiff, Nat.reduceEqDiff, Nat.reducePow, Int.reduceToNat, Int.reduceLT, Int.reduceLE, Int.reduceNeg, Int.reduceEq, Int.reducePow, reduceIte, reduceCtorEq, Int.reduceMul, Int.reduceAdd, Int.reduceSub, Int.reduceMod, Int.reduceDiv, Int.reduceTDiv, Int.reduceTMod]
  generalize hI : iter _ _ _ _ = I
  obtain ⟨T, hI2, hT, t0, t1, t2, t3⟩ := key2 _ _ hI ⟨_, rfl, rfl, rfl, rfl, rfl, rfl, rfl, rfl, rfl⟩
  subst hI2
  clear hI
  rw [tl76 hT]
  simp -implicitDefEqProofs only [t0, t1, t2, t3, ga, gp, gl, b1, b2, b3, z1, z2, push_cast, Nat.reduceAdd, Nat.reduceMul, Nat.reduceSub, Nat.reduceLT, Nat.reduceLeDiff, Nat.reduceEqDiff, Nat.reducePow, Int.reduceToNat, Int.reduceLT, Int.reduceLE, Int.reduceNeg, Int.reduceEq, Int.reducePow, reduceIte, reduceCtorEq, Int.reduceMul, Int.reduceAdd, Int.reduceSub, Int.reduceMod, Int.reduceDiv, Int.reduceTDiv, Int.reduceTMod]
  generalize hI : iter _ _ _ _ = I
  have H0 : HAt [⟨0, prs na (fun _ => .i 0) fun _ => .nils⟩, ⟨0, prs np (fun _ => .nils) fun _ => .nils⟩, ⟨0, prs nl (fun _ => .i 0) fun _ => .nils⟩, ⟨0, [.nils, .sl 0 0 0 na 2 na, .sl 1 0 0 np 2 np, .sl 2 0 0 nl 2 nl, .nils, .i 0]⟩] (liveN 0) rowN (contN n na np nl 0 0) := by
    refine ⟨fun τ hτ => ?_, fun τ τ' h1 h2 e => ?_⟩
    · cases τ with
      | clk t => have : t < 0 := hτ; omega
      | clks => have : 0 < 0 := hτ; omega
      | mem => rfl
      | atoms => rfl
      | plains => rfl
      | locks => rfl
      | _ => exact hτ.elim
    · cases τ <;> cases τ' <;> first | rfl | exact h1.elim | exact h2.elim | (simp [rowN] at e; done) | (exfalso; exact Nat.not_lt_zero _ h1) | (exfalso; exact Nat.not_lt_zero _ h2)
  obtain ⟨s', hI2, T', h', rfl, hl', H', hT', t0', t12', t44', t45'⟩ := key1 _ _ hI ⟨_, _, rfl, rfl, H0, rfl, rfl, rfl, rfl, rfl⟩
  subst hI2
  clear hI
  rw [if_neg (by omega)] at hl'
  have k1 := rowOf_at (H'.at' .mem trivial)
  simp only [rowN, contN] at k1
  rw [tl76 hT']
  simp -implicitDefEqProofs only [t12', k1, push_cast, Nat.reduceAdd, Nat.reduceMul, Nat.reduceSub, Nat.reduceLT, Nat.reduceLeDiff, Nat.reduceEqDiff, Nat.reducePow, Int.reduceToNat, Int.reduceLT, Int.reduceLE, Int.reduceNeg, Int.reduceEq, Int.reducePow, reduceIte, reduceCtorEq, Int.reduceMul, Int.reduceAdd, Int.reduceSub, Int.reduceMod, Int.reduceDiv, Int.reduceTDiv, Int.reduceTMod]
  generalize hI : iter _ _ _ _ = I
  obtain ⟨s', hI2, T2, h2, rfl, hl2, H2, hT2, t12, t63, t64⟩ := key0 _ _ hI ⟨_, h', rfl, hl', H', rfl, rfl, rfl, rfl⟩
  subst hI2
  clear hI
  rw [tl76 hT2]
  simp -implicitDefEqProofs only [t12, push_cast, Nat.reduceAdd, Nat.reduceMul, Nat.reduceSub, Nat.reduceLT, Nat.reduceLeDiff, Nat.reduceEqDiff, Nat.reducePow, Int.reduceToNat, Int.reduceLT, Int.reduceLE, Int.reduceNeg, Int.reduceEq, Int.reducePow, reduceIte, reduceCtorEq, Int.reduceMul, Int.reduceAdd, Int.reduceSub, Int.reduceMod, Int.reduceDiv, Int.reduceTDiv, Int.reduceTMod]
  refine ⟨_, rfl, H2.cast fun τ hτ => ?_, wf_new _ _ _ _, hn, hn'⟩
  cases τ with
  | clk t => exact ⟨hτ, rfl, rfl⟩
  | clks => exact ⟨hn, rfl, rfl⟩
  | mem =>
    refine ⟨trivial, rfl, ?_⟩
    obtain ⟨m, rfl⟩ : ∃ m, n = m + 1 := ⟨n - 1, by omega⟩
    rfl
  | atoms => exact ⟨trivial, rfl, rfl⟩
  | plains => exact ⟨trivial, rfl, rfl⟩
  | locks =>
    refine ⟨trivial, rfl, ?_⟩
    exact congrArg (Row.mk 0) (prs_congr fun i hi => by rw [if_pos (show i < nl from hi)]; exact ⟨rfl, rfl⟩)
  | ak a => exact absurd rfl hτ.2
  | rd a => exact absurd rfl hτ.2
  | wr a => exact absurd rfl hτ.2
  | lk a => exact absurd rfl hτ.2
  | cls => exact absurd rfl hτ
/-! ### a memory that comes out of a call by itself -/
theorem shL_vs (m k n : Nat) : shL m (vs k n) = vs (m + k) n := rfl
theorem shLs_map {α : Type} (m : Nat) (f : α → LV) : ∀ l : List α, shLs m (l.map f) = l.map fun x => shL m (f x)
  | [] => rfl
  | x :: l => by simp [shLs, shLs_map m f l]
theorem shLs_prs (m n : Nat) (f g : Nat → LV) : shLs m (prs n f g) = prs n (fun i => shL m (f i)) fun i => shL m (g i) := by
  unfold prs
  rw [shLs_map]
  refine List.map_congr_left fun j _ => ?_
  split <;> rfl
theorem shL_kn {α : Type} (m n k : Nat) (o : Option α) : shL m (kn n k o) = kn n (m + k) o := by cases o <;> rfl
theorem shL_outG (m e r i : Nat) : shL m (outG e r i) = outG e (m + r) i := by cases i <;> rfl
theorem mem_shift {h : List Row} {M : AM} {row : Tg → Nat} (H : MemAt h M row) (g : List Row) : MemAt (g ++ shR g.length h) M (fun τ => g.length + row τ) := by
  refine ⟨⟨fun τ hτ => ?_, fun τ τ' h1 h2 e => H.hat.inj τ τ' h1 h2 (by omega)⟩, H.wf, H.n⟩
  rw [List.getElem?_append_right (by omega), Nat.add_sub_cancel_left, shR_get, H.hat.at' τ hτ]
  simp only [Option.map_some]
  refine congrArg some ?_
  cases τ with
  | mem => simp only [cont, shLs, shL, shL_outG]
  | clks => simp only [cont, shLs_map, shL_vs]
  | atoms => simp only [cont, shLs_prs, shL_kn, shL]
  | plains => simp only [cont, shLs_prs, shL_kn, shL]
  | locks => simp only [cont, shLs_prs, shL_kn, shL]
  | cls => simp only [cont, clCells_shLs]
  | _ => simp only [cont, vec_shLs]
theorem new_own {h : List Row} {M : AM} {row : Tg → Nat} (H : MemAt h M row) (g : List Row) (k : Nat) (hk : own M (fun τ => g.length + row τ) k) : g.length ≤ k := by
  obtain ⟨τ, h1, rfl⟩ := hk; exact Nat.le_add_right _ _
end Go.Proofs.Ytcmlnjkbdlakfaa
