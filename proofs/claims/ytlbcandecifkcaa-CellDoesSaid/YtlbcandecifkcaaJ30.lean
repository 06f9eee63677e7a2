/- The clashes of an access, whole; are clashes the same: as the evaluator answers. -/
import Derived.Test.YtlbcandecifkcaaI30
set_option linter.unusedSimpArgs false
set_option linter.unusedVariables false
set_option maxRecDepth 100000
set_option maxHeartbeats 16000000
namespace Go.Proofs.Ytlbcandecifkcaa
open Go
theorem clash_last (K : Nat) (h : List Row) (th na np nl : Int) (L : List Dn) (cl : List (Int × Int × Int)) (LS CS : LV) {P : Nat → Prop} (H : HAll h P L cl LS CS) (d : Dn) (kb : Nat) (u : Nat) (l : List (Int × Int × Int)) (S : LV) (s : St)
    (hs : S33 h [.i th, .i na, .i np, .i nl, LS, CS] L d kb u l S L.length s) :
    ∃ s', evCode (evF cm K) K 0 c33b0 (cleanN fg33b s) = some (.exit 2, s') ∧ S33 h [.i th, .i na, .i np, .i nl, LS, CS] L d kb u l S L.length s' := by
  obtain ⟨T, hh, rfl, F, G, hT, t2, t3, t5, t6, t7, t8⟩ := hs
  rw [tl85 hT]
  have g1 : ¬ (L.length : Int) < (L.length : Int) := by omega
  have r0 := F.r0
  have hl := H.l.len
  simp -implicitDefEqProofs only [c33b0, fg33b, t2, t3, t5, t6, t7, t8, r0, hl, g1, push_cast, Nat.reduceAdd, Nat.reduceMul, Nat.reduceSub, Nat.reduceLT, Nat.reduceLeDiff, Nat.reduceEqDiff, Nat.reducePow, Int.reduceToNat, Int.reduceLT, Int.reduceLE, Int.reduceNeg, Int.reduceEq, Int.reducePow, reduceIte, reduceCtorEq, Int.reduceMul, Int.reduceAdd, Int.reduceSub, Int.reduceMod, Int.reduceDiv, Int.reduceTDiv, Int.reduceTMod, iter_s]
  exact ⟨_, rfl, _, hh, rfl, F, G, rfl, rfl, rfl, rfl, rfl, rfl, rfl⟩
def fg33a : List Nat := [15, 14, 83, 82, 81, 80, 79, 78, 77, 76, 75, 74, 73, 72, 22, 21, 71, 70, 69, 68, 67, 66, 65, 64, 63, 62, 61, 60, 59, 58, 57, 56, 55, 54, 53, 52, 51, 50, 49, 48, 47, 46, 45, 44, 43, 42, 41, 40, 39, 38, 37, 36, 35, 34, 33, 32, 31, 30, 29, 28, 27, 26, 25, 24, 23, 20, 19, 18, 17, 16, 13, 12, 11, 10]
def hclI (L : List Dn) (d : Dn) (u : Nat) : List (Int × Int × Int) := hcl u L d
theorem hcl_succ (L : List Dn) (d : Dn) (u : Nat) : hcl (u + 1) L d = hcl u L d ++ (if anyC L d u L.length then [(d.a, (u : Int), d.t)] else []) := by
  unfold hcl
  rw [List.range_succ, List.filter_append, List.map_append]
  congr 1
  have e : hclB L d u = anyC L d u L.length := rfl
  by_cases h : anyC L d u L.length = true
  · simp [e, h]
  · simp [e, h]
theorem hcl_len (L : List Dn) (d : Dn) (u : Nat) : (hcl u L d).length ≤ u := by
  unfold hcl
  rw [List.length_map]
  have := List.length_filter_le (hclB L d) (List.range u)
  simpa using this
def O33 (h : List Row) (hd : List LV) (L : List Dn) (d : Dn) (kb : Nat) (u : Nat) (s : St) : Prop := ∃ T hh S, s = (T, hh) ∧ Fc h hh hd (dnC d kb L.length) ∧ G3 (h.length + 2) hh (hcl u L d) S ∧ T.length = 85 ∧ getT T 2 = .p h.length 0 0 ∧ getT T 3 = .p (h.length + 1) 0 0 ∧ getT T 5 = S ∧ getT T 6 = .i u
theorem clash_outer (K : Nat) (hK : 70 ≤ K) (h : List Row) (N : Nat) (hN : N ≤ 80) (na np nl : Int) (L : List Dn) (cl : List (Int × Int × Int)) (LS CS : LV) {P : Nat → Prop} (H : HAll h P L cl LS CS) (d : Dn) (kb : Nat) (hkb : rowOf h kb 0 = some (bools d.bf)) (hdl : d.bf.length = L.length) (u : Nat) (s : St) (hu : u < N)
    (hs : O33 h [.i N, .i na, .i np, .i nl, LS, CS] L d kb u s) :
    ∃ s', evCode (evF cm K) K 0 c33b1 (cleanN fg33a s) = some (.nrm, s') ∧ O33 h [.i N, .i na, .i np, .i nl, LS, CS] L d kb (u + 1) s' := by
  obtain ⟨T, hh, S, rfl, F, G, hT, t2, t3, t5, t6⟩ := hs
  rw [tl85 hT]
  have hn := H.n
  have g1 : (u : Int) < (N : Int) := by omega
  have w1 : IntKind.i64.wrap ((u : Int) + 1) = (u : Int) + 1 := w64 _ (by omega) (by omega)
  have r0 := F.r0
  have key : ∀ s I, iter (evCode (evF cm K) K 0 c33b0) (cleanN fg33b) K s = I → S33 h [.i N, .i na, .i np, .i nl, LS, CS] L d kb u (hcl u L d) S 0 s →
      ∃ s', I = some (.exit 2, s') ∧ S33 h [.i N, .i na, .i np, .i nl, LS, CS] L d kb u (hcl u L d) S L.length s' := by
    intro s I hI hs
    obtain ⟨s', h1, h2⟩ := iter_count (fun i s hi hs => clash_round K h N na np nl L cl LS CS H d kb hkb hdl u (hcl u L d) S i s hi hs) (fun s hs => clash_last K h N na np nl L cl LS CS H d kb u (hcl u L d) S s hs) L.length 0 s K (by omega) (by omega) hs
    exact ⟨s', hI.symm.trans h1, h2⟩
  simp -implicitDefEqProofs only [c33b1, fg33a, t2, t3, t5, t6, r0, g1, push_cast, Nat.reduceAdd, Nat.reduceMul, Nat.reduceSub, Nat.reduceLT, Nat.reduceLeDiff, Nat.reduceEqDiff, Nat.reducePow, Int.reduceToNat, Int.reduceLT, Int.reduceLE, Int.reduceNeg, Int.reduceEq, Int.reducePow, reduceIte, reduceCtorEq, Int.reduceMul, Int.reduceAdd, Int.reduceSub, Int.reduceMod, Int.reduceDiv, Int.reduceTDiv, Int.reduceTMod]
  generalize hI : iter _ _ _ _ = I
  obtain ⟨s', hI2, T', hh', rfl, F', G', hT', t2', t3', t5', t6', t7', t8'⟩ := key _ _ hI ⟨_, _, rfl, F, G, rfl, rfl, rfl, rfl, rfl, rfl, rfl⟩
  subst hI2
  clear hI
  rw [tl85 hT']
  have hsu := hcl_succ L d u
  have hlu := hcl_len L d u
  have r1 := F'.r1
  unfold dnC at r1
  cases ha : anyC L d u L.length with
  | true =>
    rw [ha] at t7'
    rw [ha, if_pos rfl] at hsu
    obtain ⟨S2, h2, e2, G2, hl2, hs2⟩ := g3_app G' F'.le (by omega) d.a u d.t
    simp -implicitDefEqProofs only [t2', t3', t5', t6', t7', r1, e2, w1, push_cast, Nat.reduceAdd, Nat.reduceMul, Nat.reduceSub, Nat.reduceLT, Nat.reduceLeDiff, Nat.reduceEqDiff, Nat.reducePow, Int.reduceToNat, Int.reduceLT, Int.reduceLE, Int.reduceNeg, Int.reduceEq, Int.reducePow, reduceIte, reduceCtorEq, Int.reduceMul, Int.reduceAdd, Int.reduceSub, Int.reduceMod, Int.reduceDiv, Int.reduceTDiv, Int.reduceTMod]
    exact ⟨_, rfl, _, h2, S2, rfl, F'.low hl2 hs2, by rw [hsu]; exact G2, rfl, rfl, rfl, rfl, rfl⟩
  | false =>
    rw [ha] at t7'
    rw [ha, if_neg (by simp), List.append_nil] at hsu
    simp -implicitDefEqProofs only [t2', t3', t5', t6', t7', w1, push_cast, Nat.reduceAdd, Nat.reduceMul, Nat.reduceSub, Nat.reduceLT, Nat.reduceLeDiff, Nat.reduceEqDiff, Nat.reducePow, Int.reduceToNat, Int.reduceLT, Int.reduceLE, Int.reduceNeg, Int.reduceEq, Int.reducePow, reduceIte, reduceCtorEq, Int.reduceMul, Int.reduceAdd, Int.reduceSub, Int.reduceMod, Int.reduceDiv, Int.reduceTDiv, Int.reduceTMod]
    exact ⟨_, rfl, _, hh', S, rfl, F', by rw [hsu]; exact G', rfl, rfl, rfl, rfl, rfl⟩
theorem clash_outlast (K : Nat) (h : List Row) (N : Nat) (na np nl : Int) (L : List Dn) (LS CS : LV) (d : Dn) (kb : Nat) (s : St)
    (hs : O33 h [.i N, .i na, .i np, .i nl, LS, CS] L d kb N s) :
    ∃ s', evCode (evF cm K) K 0 c33b1 (cleanN fg33a s) = some (.exit 0, s') ∧ O33 h [.i N, .i na, .i np, .i nl, LS, CS] L d kb N s' := by
  obtain ⟨T, hh, S, rfl, F, G, hT, t2, t3, t5, t6⟩ := hs
  rw [tl85 hT]
  have g1 : ¬ (N : Int) < (N : Int) := by omega
  have r0 := F.r0
  simp -implicitDefEqProofs only [c33b1, fg33a, t2, t3, t5, t6, r0, g1, push_cast, Nat.reduceAdd, Nat.reduceMul, Nat.reduceSub, Nat.reduceLT, Nat.reduceLeDiff, Nat.reduceEqDiff, Nat.reducePow, Int.reduceToNat, Int.reduceLT, Int.reduceLE, Int.reduceNeg, Int.reduceEq, Int.reducePow, reduceIte, reduceCtorEq, Int.reduceMul, Int.reduceAdd, Int.reduceSub, Int.reduceMod, Int.reduceDiv, Int.reduceTDiv, Int.reduceTMod]
  exact ⟨_, rfl, _, hh, S, rfl, F, G, rfl, rfl, rfl, rfl, rfl⟩
theorem hclash_ok (k : Nat) (h : List Row) (hne : h.isEmpty = false) (N : Nat) (hN : N ≤ 80) (na np nl : Int) (L : List Dn) (cl : List (Int × Int × Int)) (LS CS : LV) {P : Nat → Prop} (H : HAll h P L cl LS CS) (d : Dn) (kb : Nat) (hkb : rowOf h kb 0 = some (bools d.bf)) (hdl : d.bf.length = L.length) :
    ∃ h' S, evF cm (k + 90) 33 [HV N na np nl LS CS, .agg (dnC d kb L.length)] h 0 = some (S, h') ∧ Ext h h' ∧ G3 (h.length + 2) h' (hcl N L d) S := by
  have hn := H.n
  have hLa := H.l.atm
  have hCa := H.c.atm
  have hl1 : ∀ x : Row, (h ++ [x]).length = h.length + 1 := fun x => by simp
  have F0 : Fc h (h ++ [⟨0, [.i N, .i na, .i np, .i nl, LS, CS]⟩, ⟨0, dnC d kb L.length⟩]) [.i N, .i na, .i np, .i nl, LS, CS] (dnC d kb L.length) := by
    refine ⟨by simp, fun k hk => List.getElem?_append_left hk, rowOf_app_eq, ?_⟩
    refine rowOf_at ?_
    rw [List.getElem?_append_right (by omega), show h.length + 1 - h.length = 1 by omega]; rfl
  have key : ∀ s I, iter (evCode (evF cm (k + 89)) (k + 89) 0 c33b1) (cleanN fg33a) (k + 89) s = I → O33 h [.i N, .i na, .i np, .i nl, LS, CS] L d kb 0 s →
      ∃ s', I = some (.exit 0, s') ∧ O33 h [.i N, .i na, .i np, .i nl, LS, CS] L d kb N s' := by
    intro s I hI hs
    obtain ⟨s', h1, h2⟩ := iter_count (fun u s hu hs => clash_outer (k + 89) (by omega) h N hN na np nl L cl LS CS H d kb hkb hdl u s hu hs) (fun s hs => clash_outlast (k + 89) h N na np nl L LS CS d kb s hs) N 0 s (k + 89) (by omega) (by omega) hs
    exact ⟨s', hI.symm.trans h1, h2⟩
  unfold dnC at F0 key
  rw [evX_fun (m := c33) rfl _ _ _ _ hne rfl]
  simp -implicitDefEqProofs only [c33, HV, dnC, hLa.1, hLa.2, hCa.1, hCa.2, hl1, List.append_assoc, push_cast, Nat.reduceAdd, Nat.reduceMul, Nat.reduceSub, Nat.reduceLT, Nat.reduceLeDiff, Nat.reduceEqDiff, Nat.reducePow, Int.reduceToNat, Int.reduceLT, Int.reduceLE, Int.reduceNeg, Int.reduceEq, Int.reducePow, reduceIte, reduceCtorEq, Int.reduceMul, Int.reduceAdd, Int.reduceSub, Int.reduceMod, Int.reduceDiv, Int.reduceTDiv, Int.reduceTMod]
  generalize hI : iter _ _ _ _ = I
  obtain ⟨s', hI2, T, hh, S, rfl, F, G, hT, t2, t3, t5, t6⟩ := key _ _ hI ⟨_, _, .nils, rfl, F0, .inl ⟨rfl, rfl⟩, rfl, rfl, rfl, rfl, rfl⟩
  subst hI2
  clear hI
  rw [tl85 hT]
  simp -implicitDefEqProofs only [t5, push_cast, Nat.reduceAdd, Nat.reduceMul, Nat.reduceSub, Nat.reduceLT, Nat.reduceLeDiff, Nat.reduceEqDiff, Nat.reducePow, Int.reduceToNat, Int.reduceLT, Int.reduceLE, Int.reduceNeg, Int.reduceEq, Int.reducePow, reduceIte, reduceCtorEq, Int.reduceMul, Int.reduceAdd, Int.reduceSub, Int.reduceMod, Int.reduceDiv, Int.reduceTDiv, Int.reduceTMod]
  exact ⟨hh, S, rfl, F.x, G⟩
/-! ### are clashes the same -/
theorem tl26 {T : List LV} (h : T.length = 26) : T = [getT T 0, getT T 1, getT T 2, getT T 3, getT T 4, getT T 5, getT T 6, getT T 7, getT T 8, getT T 9, getT T 10, getT T 11, getT T 12, getT T 13, getT T 14, getT T 15, getT T 16, getT T 17, getT T 18, getT T 19, getT T 20, getT T 21, getT T 22, getT T 23, getT T 24, getT T 25] := tlT h
theorem clCells_drop : ∀ (l : List (Int × Int × Int)) (i : Nat), i < l.length → ∃ x y z rest, (clCells l).drop (i * 3) = .i x :: .i y :: .i z :: rest
  | c :: l, 0, _ => ⟨c.1, c.2.1, c.2.2, clCells l, rfl⟩
  | c :: l, i + 1, h => by
    obtain ⟨x, y, z, rest, e⟩ := clCells_drop l i (by simpa using h)
    refine ⟨x, y, z, rest, ?_⟩
    rw [show (i + 1) * 3 = i * 3 + 3 by omega]
    simpa [clCells] using e
def fg17 : List Nat := [16, 15, 4, 25, 24, 23, 22, 21, 20, 19, 18, 17, 14, 13, 12, 11]
def S17 (cs : List LV) (n : Nat) (i : Nat) (s : St) : Prop := ∃ T, s = (T, []) ∧ T.length = 26 ∧ getT T 0 = .im cs n false ∧ getT T 1 = .im cs n false ∧ getT T 5 = .i i
theorem same_round (K : Nat) (l : List (Int × Int × Int)) (hl : l.length < 1000000000) (i : Nat) (s : St) (hi : i < l.length) (hs : S17 (clCells l) l.length i s) :
    ∃ s', evCode (evF cm K) K 0 c17b0 (cleanN fg17 s) = some (.nrm, s') ∧ S17 (clCells l) l.length (i + 1) s' := by
  obtain ⟨T, rfl, hT, t0, t1, t5⟩ := hs
  rw [tl26 hT]
  obtain ⟨x, y, z, rest, e⟩ := clCells_drop l i hi
  have g1 : (i : Int) < (l.length : Int) := by omega
  have g2 : (0 : Int) ≤ (i : Int) := by omega
  have w1 : IntKind.i64.wrap ((i : Int) + 1) = (i : Int) + 1 := w64 _ (by omega) (by omega)
  have g3 : 3 ≤ rest.length + 1 + 1 + 1 := by omega
  simp -implicitDefEqProofs only [c17b0, fg17, t0, t1, t5, g1, g2, g3, w1, e, eq_self, push_cast, Nat.reduceAdd, Nat.reduceMul, Nat.reduceSub, Nat.reduceLT, Nat.reduceLeDiff, Nat.reduceEqDiff, Nat.reducePow, Int.reduceToNat, Int.reduceLT, Int.reduceLE, Int.reduceNeg, Int.reduceEq, Int.reducePow, reduceIte, reduceCtorEq, Int.reduceMul, Int.reduceAdd, Int.reduceSub, Int.reduceMod, Int.reduceDiv, Int.reduceTDiv, Int.reduceTMod, iter_s]
  exact ⟨_, rfl, _, rfl, rfl, rfl, rfl, rfl⟩
theorem same_last (K : Nat) (l : List (Int × Int × Int)) (s : St) (hs : S17 (clCells l) l.length l.length s) :
    ∃ s', evCode (evF cm K) K 0 c17b0 (cleanN fg17 s) = some (.exit 0, s') ∧ S17 (clCells l) l.length l.length s' := by
  obtain ⟨T, rfl, hT, t0, t1, t5⟩ := hs
  rw [tl26 hT]
  have g1 : ¬ (l.length : Int) < (l.length : Int) := by omega
  simp -implicitDefEqProofs only [c17b0, fg17, t0, t1, t5, g1, push_cast, Nat.reduceAdd, Nat.reduceMul, Nat.reduceSub, Nat.reduceLT, Nat.reduceLeDiff, Nat.reduceEqDiff, Nat.reducePow, Int.reduceToNat, Int.reduceLT, Int.reduceLE, Int.reduceNeg, Int.reduceEq, Int.reducePow, reduceIte, reduceCtorEq, Int.reduceMul, Int.reduceAdd, Int.reduceSub, Int.reduceMod, Int.reduceDiv, Int.reduceTDiv, Int.reduceTMod, iter_s]
  exact ⟨_, rfl, _, rfl, rfl, rfl, rfl, rfl⟩
theorem same_im (K : Nat) (l : List (Int × Int × Int)) (hl : l.length < K) (hl' : l.length < 1000000000) : evF cm (K + 1) 17 [.im (clCells l) l.length false, .im (clCells l) l.length false] [] 0 = some (.b true, []) := by
  have key : ∀ s I, iter (evCode (evF cm K) K 0 c17b0) (cleanN fg17) K s = I → S17 (clCells l) l.length 0 s → ∃ s', I = some (.exit 0, s') ∧ S17 (clCells l) l.length l.length s' := by
    intro s I hI hs
    obtain ⟨s', h1, h2⟩ := iter_count (fun i s hi hs => same_round K l hl' i s hi hs) (fun s hs => same_last K l s hs) l.length 0 s K (by omega) (by omega) hs
    exact ⟨s', hI.symm.trans h1, h2⟩
  rw [evH_fun (m := c17) rfl _ _ _ _ rfl]
  simp -implicitDefEqProofs only [c17, eq_self, push_cast, Nat.reduceAdd, Nat.reduceMul, Nat.reduceSub, Nat.reduceLT, Nat.reduceLeDiff, Nat.reduceEqDiff, Nat.reducePow, Int.reduceToNat, Int.reduceLT, Int.reduceLE, Int.reduceNeg, Int.reduceEq, Int.reducePow, reduceIte, reduceCtorEq, Int.reduceMul, Int.reduceAdd, Int.reduceSub, Int.reduceMod, Int.reduceDiv, Int.reduceTDiv, Int.reduceTMod]
  generalize hI : iter _ _ _ _ = I
  obtain ⟨s', hI2, T, rfl, hT, t0, t1, t5⟩ := key _ _ hI ⟨_, rfl, rfl, rfl, rfl, rfl⟩
  subst hI2
  clear hI
  rw [tl26 hT]
  simp -implicitDefEqProofs only [push_cast, Nat.reduceAdd, Nat.reduceMul, Nat.reduceSub, Nat.reduceLT, Nat.reduceLeDiff, Nat.reduceEqDiff, Nat.reducePow, Int.reduceToNat, Int.reduceLT, Int.reduceLE, Int.reduceNeg, Int.reduceEq, Int.reducePow, reduceIte, reduceCtorEq, Int.reduceMul, Int.reduceAdd, Int.reduceSub, Int.reduceMod, Int.reduceDiv, Int.reduceTDiv, Int.reduceTMod]
theorem same_nil (k : Nat) (S1 S2 : LV) (h1 : S1 = .nils ∨ S1 = .im [] 0 true) (h2 : S2 = .nils ∨ S2 = .im [] 0 true) : evP (evF cm (k + 5)) 17 [S1, S2] = some (.b true) := by
  rcases h1 with rfl | rfl <;> rcases h2 with rfl | rfl <;> kernel_rfl
theorem same_call (K lim : Nat) (hK : 5 ≤ K) (h : List Row) (l : List (Int × Int × Int)) (hl : l.length < K) (hl' : l.length < 1000000000) (S1 S2 : LV) {P1 P2 : Nat → Prop} (H1 : C3At h P1 l S1) (H2 : C3At h P2 l S2) : callE (evF cm (K + 1)) false lim h (.f 17 []) [S1, S2] = some (.b true, h) := by
  rcases H1 with ⟨rfl, a1⟩ | ⟨b1, k1, v1, _, rfl, r1⟩
  · rcases H2 with ⟨-, a2⟩ | ⟨b2, _⟩
    · obtain ⟨k, rfl⟩ : ∃ k, K = k + 5 := ⟨K - 5, by omega⟩
      have e := same_nil (k + 1) S1 S2 a1 a2
      rw [call_P]
      · rw [List.append_nil]
        have e' : evP (evF cm (k + 5 + 1)) 17 [S1, S2] = some (.b true) := e
        rw [e']; rfl
      · rcases a1 with rfl | rfl <;> rcases a2 with rfl | rfl <;> rfl
    · exact absurd rfl b2
  · rcases H2 with ⟨a2, _⟩ | ⟨b2, k2, v2, _, rfl, r2⟩
    · exact absurd a2 b1
    · have hle : l.length * 3 ≤ (clCells l).length := by rw [clCells_len]; exact Nat.le_refl _
      have htk : List.take (l.length * 3) (clCells l) = clCells l := List.take_of_length_le (by rw [clCells_len]; exact Nat.le_refl _)
      have hc := clCells_closed l
      have e := same_im K l hl hl'
      rw [call_I (by rfl)]
      · simp only [List.append_nil, frzL, frz, r1, r2, Nat.zero_add, if_pos hle, List.drop_zero, htk, e, impF_some]
        rfl
      · simp only [List.append_nil, frzL, frz, r1, r2, Nat.zero_add, if_pos hle, List.drop_zero, htk, closedL, closed, hc]
        rfl
end Go.Proofs.Ytlbcandecifkcaa
