/- A prim touches the tiles that the document says (BinTouches), as the evaluator answers. -/
import Derived.Test.YtjgnjpbplnmdmaaBY
set_option linter.unusedSimpArgs false
set_option linter.unusedVariables false
set_option linter.unusedSectionVars false
set_option maxRecDepth 100000
set_option maxHeartbeats 16000000
namespace Go.Proofs.Ytjgnjpbplnmdmaa
open Go
theorem tl81 {T : List LV} (h : T.length = 81) : T = [getT T 0, getT T 1, getT T 2, getT T 3, getT T 4, getT T 5, getT T 6, getT T 7, getT T 8, getT T 9, getT T 10, getT T 11, getT T 12, getT T 13, getT T 14, getT T 15, getT T 16, getT T 17, getT T 18, getT T 19, getT T 20, getT T 21, getT T 22, getT T 23, getT T 24, getT T 25, getT T 26, getT T 27, getT T 28, getT T 29, getT T 30, getT T 31, getT T 32, getT T 33, getT T 34, getT T 35, getT T 36, getT T 37, getT T 38, getT T 39, getT T 40, getT T 41, getT T 42, getT T 43, getT T 44, getT T 45, getT T 46, getT T 47, getT T 48, getT T 49, getT T 50, getT T 51, getT T 52, getT T 53, getT T 54, getT T 55, getT T 56, getT T 57, getT T 58, getT T 59, getT T 60, getT T 61, getT T 62, getT T 63, getT T 64, getT T 65, getT T 66, getT T 67, getT T 68, getT T 69, getT T 70, getT T 71, getT T 72, getT T 73, getT T 74, getT T 75, getT T 76, getT T 77, getT T 78, getT T 79, getT T 80] := tlT h
def fgP : List Nat := [78, 77, 76, 75, 74, 73, 72, 71, 70, 69, 68, 63, 67, 66, 65, 64, 62, 61, 60]
/-- Those of a list of which something holds. -/
def fil (P : Int → Bool) (C : List Int) : List Int := C.filter P
theorem fil_fl (P : Int → Bool) (Q : Nat → Bool) : ∀ n, fil P (fl Q n) = fl (fun i => Q i && P i) n
  | 0 => rfl
  | n + 1 => by
    have ih := fil_fl P Q n
    unfold fil at ih ⊢
    simp only [fl]
    by_cases hq : Q n = true
    · by_cases hp : P n = true
      · simp [hq, hp, ih]
      · simp [hq, hp, ih]
    · simp [hq, ih]
theorem fl_mem (Q : Nat → Bool) : ∀ n, ∀ x ∈ fl Q n, ∃ i : Nat, x = i ∧ i < n
  | 0, x, h => by simp [fl] at h
  | n + 1, x, h => by
    unfold fl at h
    split at h
    · rcases List.mem_append.1 h with h | h
      · obtain ⟨i, a, b⟩ := fl_mem Q n x h; exact ⟨i, a, by omega⟩
      · simp at h; exact ⟨n, h, by omega⟩
    · obtain ⟨i, a, b⟩ := fl_mem Q n x h; exact ⟨i, a, by omega⟩
section
variable (q n0 n1 n2 n3 n4 n5 n6 n7 n8 n9 n10 n11 n12 n13 n14 n15 n16 n17 n18 n19 n20 n21 n22 n23 n24 n25 n26 n27 n28 n29 n30 n31 m0 m1 m2 m3 m4 m5 m6 m7 m8 m9 m10 m11 m12 m13 m14 m15 v0 v1 v2 v3 u0 u1 u2 u3 dfn vt0 vt1 vt2 vt3 vt4 vt5 vt6 b0 b1 b2 b3 cu txx wr iw ih wh cr cg cb ca0 cz cs sx0 sx1 sx2 sx3 : Int) (p so : Bool) (l : List Int) (L : LV) (hS : SlI l L) (w h : Int) (C : List Int) (S : LV) (hC : SlI C S)
def ST (i : Nat) (s : St) : Prop := ∃ T hh r, s = (T, hh) ∧ T.length = 81 ∧ getT T 0 = .i w ∧ getT T 1 = .i h ∧ getT T 5 = .p 0 0 0 ∧ getT T 13 = .i 0 ∧ getT T 14 = outG 1 r (fil (nr3 n0 n1 n9 n10 n18 n19 w h) (C.take i)).length ∧ getT T 57 = S ∧ getT T 58 = .i C.length ∧ getT T 59 = .i i ∧ hh[0]? = some ⟨0, [.i q, .i n0, .i n1, .i n2, .i n3, .i n4, .i n5, .i n6, .i n7, .i n8, .i n9, .i n10, .i n11, .i n12, .i n13, .i n14, .i n15, .i n16, .i n17, .i n18, .i n19, .i n20, .i n21, .i n22, .i n23, .i n24, .i n25, .i n26, .i n27, .i n28, .i n29, .i n30, .i n31, .i m0, .i m1, .i m2, .i m3, .i m4, .i m5, .i m6, .i m7, .i m8, .i m9, .i m10, .i m11, .i m12, .i m13, .i m14, .i m15, .i v0, .i v1, .i v2, .i v3, .i u0, .i u1, .i u2, .i u3, .i dfn, .b p, .i vt0, .i vt1, .i vt2, .i vt3, .i vt4, .i vt5, .i vt6, .i b0, .i b1, .i b2, .i b3, .i cu, .i txx, .i wr, .b so, .i iw, .i ih, L, .i wh, .i cr, .i cg, .i cb, .i ca0, .i cz, .i cs, .i sx0, .i sx1, .i sx2, .i sx3]⟩ ∧ Grows hh 1 r (fil (nr3 n0 n1 n9 n10 n18 n19 w h) (C.take i))
variable (hp : pic w h) (hc : ∀ x ∈ C, 0 ≤ x ∧ x < cols w * cols h) (hl : C.length ≤ 1000) (s0 : sm n0 n1 n2 n3 n4 n5 n6 n7 n8) (s1 : sm n9 n10 n11 n12 n13 n14 n15 n16 n17) (s2 : sm n18 n19 n20 n21 n22 n23 n24 n25 n26)
include hS hC hp hc hl s0 s1 s2
theorem prog_round (K : Nat) (hK : 100 ≤ K) (i : Nat) (s : St) (hi' : i < C.length) (hs : ST q n0 n1 n2 n3 n4 n5 n6 n7 n8 n9 n10 n11 n12 n13 n14 n15 n16 n17 n18 n19 n20 n21 n22 n23 n24 n25 n26 n27 n28 n29 n30 n31 m0 m1 m2 m3 m4 m5 m6 m7 m8 m9 m10 m11 m12 m13 m14 m15 v0 v1 v2 v3 u0 u1 u2 u3 dfn vt0 vt1 vt2 vt3 vt4 vt5 vt6 b0 b1 b2 b3 cu txx wr iw ih wh cr cg cb ca0 cz cs sx0 sx1 sx2 sx3 p so L w h C S i s) :
    ∃ s', evCode (evF cm K) K 0 c5b0 (cleanN fgP s) = some (.nrm, s') ∧ ST q n0 n1 n2 n3 n4 n5 n6 n7 n8 n9 n10 n11 n12 n13 n14 n15 n16 n17 n18 n19 n20 n21 n22 n23 n24 n25 n26 n27 n28 n29 n30 n31 m0 m1 m2 m3 m4 m5 m6 m7 m8 m9 m10 m11 m12 m13 m14 m15 v0 v1 v2 v3 u0 u1 u2 u3 dfn vt0 vt1 vt2 vt3 vt4 vt5 vt6 b0 b1 b2 b3 cu txx wr iw ih wh cr cg cb ca0 cz cs sx0 sx1 sx2 sx3 p so L w h C S (i + 1) s' := by
  obtain ⟨k, rfl⟩ : ∃ k, K = k + 60 := ⟨K - 60, by omega⟩
  obtain ⟨T, hh, r, rfl, ht, t0, t1, t5, t13, t14, t57, t58, t59, q2, G⟩ := hs
  rw [tl81 ht]
  have hat := hS.atm
  have hcl := hS.cl
  have hce := hS.cells
  have hln := hS.len
  have g1 : (i : Int) < (C.length : Int) := by omega
  have w1 : IntKind.i64.wrap ((i : Int) + 1) = ((i + 1 : Nat) : Int) := by rw [w64 _ (by omega) (by omega)]; rfl
  have hx := hC.ix i (by omega) g1
  rw [Int.toNat_natCast] at hx
  have hr := rd_ints C i hi'
  have hr' := rd_ints' C i hi'
  have hm : C.getD i 0 ∈ C := by rw [List.getD_eq_getElem?_getD, List.getElem?_eq_getElem hi']; exact List.getElem_mem hi'
  have htk : C.take (i + 1) = C.take i ++ [C.getD i 0] := by
    rw [List.take_add_one, List.getElem?_eq_getElem hi', List.getD_eq_getElem?_getD, List.getElem?_eq_getElem hi']; rfl
  have hlen : (fil (nr3 n0 n1 n9 n10 n18 n19 w h) (C.take i)).length ≤ i := by
    have h1 := List.length_filter_le (nr3 n0 n1 n9 n10 n18 n19 w h) (C.take i)
    have h2 := List.length_take_le i C
    unfold fil; omega
  unfold ST
  have hfa : fil (nr3 n0 n1 n9 n10 n18 n19 w h) (C.take (i + 1)) = fil (nr3 n0 n1 n9 n10 n18 n19 w h) (C.take i) ++ fil (nr3 n0 n1 n9 n10 n18 n19 w h) [C.getD i 0] := by
    rw [htk]; unfold fil; rw [List.filter_append]
  rw [hfa]
  have hn := hc _ hm
  generalize C.getD i 0 = v at *
  generalize fil (nr3 n0 n1 n9 n10 n18 n19 w h) (C.take i) = O at *
  have k11 := fun k => w_box k w h v hp hn
  obtain ⟨i0, i1, i2, i3⟩ := tile_inn hp hn
  have kn := fun k => near_ok n0 n1 n2 n3 n4 n5 n6 n7 n8 n9 n10 n11 n12 n13 n14 n15 n16 n17 n18 n19 n20 n21 n22 n23 n24 n25 n26 n27 n28 n29 n30 n31 (tx w v) (ty w v) (lo (tx w v + 16) w) (lo (ty w v + 16) h) k s0.1 s1.1 s2.1 i0 i1 i2 i3
  have en : (nrE n0 n1 n9 n10 (tx w v) (ty w v) (lo (tx w v + 16) w) (lo (ty w v + 16) h) && nrE n9 n10 n18 n19 (tx w v) (ty w v) (lo (tx w v + 16) w) (lo (ty w v + 16) h) && nrE n18 n19 n0 n1 (tx w v) (ty w v) (lo (tx w v + 16) w) (lo (ty w v + 16) h)) = nr3 n0 n1 n9 n10 n18 n19 w h v := rfl
  rw [en] at kn
  have l0 := (List.getElem?_eq_some_iff.1 q2).1
  have ra : ∀ x : Row, rowOf (hh ++ [x]) 0 0 = some [.i q, .i n0, .i n1, .i n2, .i n3, .i n4, .i n5, .i n6, .i n7, .i n8, .i n9, .i n10, .i n11, .i n12, .i n13, .i n14, .i n15, .i n16, .i n17, .i n18, .i n19, .i n20, .i n21, .i n22, .i n23, .i n24, .i n25, .i n26, .i n27, .i n28, .i n29, .i n30, .i n31, .i m0, .i m1, .i m2, .i m3, .i m4, .i m5, .i m6, .i m7, .i m8, .i m9, .i m10, .i m11, .i m12, .i m13, .i m14, .i m15, .i v0, .i v1, .i v2, .i v3, .i u0, .i u1, .i u2, .i u3, .i dfn, .b p, .i vt0, .i vt1, .i vt2, .i vt3, .i vt4, .i vt5, .i vt6, .i b0, .i b1, .i b2, .i b3, .i cu, .i txx, .i wr, .b so, .i iw, .i ih, L, .i wh, .i cr, .i cg, .i cb, .i ca0, .i cz, .i cs, .i sx0, .i sx1, .i sx2, .i sx3] := fun x => by rw [rowOf_app_lt l0]; exact rowOf_at q2
  have rb := rowEnd
  have sb := setEnd
  have hne : hh.isEmpty = false := by cases hh with | nil => simp at q2 | cons _ _ => rfl
  have Gx := G.app [(⟨0, [.i (tx w v), .i (ty w v), .i (lo (tx w v + 16) w), .i (lo (ty w v + 16) h)]⟩ : Row)]
  have q2x : (hh ++ [(⟨0, [.i (tx w v), .i (ty w v), .i (lo (tx w v + 16) w), .i (lo (ty w v + 16) h)]⟩ : Row)])[0]? = some ⟨0, [.i q, .i n0, .i n1, .i n2, .i n3, .i n4, .i n5, .i n6, .i n7, .i n8, .i n9, .i n10, .i n11, .i n12, .i n13, .i n14, .i n15, .i n16, .i n17, .i n18, .i n19, .i n20, .i n21, .i n22, .i n23, .i n24, .i n25, .i n26, .i n27, .i n28, .i n29, .i n30, .i n31, .i m0, .i m1, .i m2, .i m3, .i m4, .i m5, .i m6, .i m7, .i m8, .i m9, .i m10, .i m11, .i m12, .i m13, .i m14, .i m15, .i v0, .i v1, .i v2, .i v3, .i u0, .i u1, .i u2, .i u3, .i dfn, .b p, .i vt0, .i vt1, .i vt2, .i vt3, .i vt4, .i vt5, .i vt6, .i b0, .i b1, .i b2, .i b3, .i cu, .i txx, .i wr, .b so, .i iw, .i ih, L, .i wh, .i cr, .i cg, .i cb, .i ca0, .i cz, .i cs, .i sx0, .i sx1, .i sx2, .i sx3]⟩ := by rw [List.getElem?_append_left l0]; exact q2
  cases ho : nr3 n0 n1 n9 n10 n18 n19 w h v with
  | false =>
    rw [ho] at kn
    have ec : fil (nr3 n0 n1 n9 n10 n18 n19 w h) [v] = [] := by simp [fil, ho]
    rw [ec, List.append_nil]
    simp -implicitDefEqProofs (maxSteps := 4000000) only [c5b0, fgP, t0, t1, t5, t13, t14, t57, t58, t59, g1, w1, hx, hr, hr', k11, kn, ra, rb, sb, hat, hcl, hce, hln, push_cast, Nat.reduceAdd, Nat.reduceMul, Nat.reduceSub, Nat.reduceLT, Nat.reduceLeDiff, Nat.reduceEqDiff, Nat.reducePow, Int.reduceToNat, Int.reduceLT, Int.reduceLE, Int.reduceNeg, Int.reduceEq, Int.reducePow, reduceIte, reduceCtorEq, Int.reduceMul, Int.reduceAdd, Int.reduceSub, Int.reduceMod, Int.reduceDiv, Int.reduceTDiv, Int.reduceTMod, iter_s]
    refine ⟨_, rfl, ?_⟩
    exact ⟨_, _, r, rfl, rfl, rfl, rfl, rfl, rfl, rfl, rfl, rfl, rfl, q2x, Gx⟩
  | true =>
    rw [ho] at kn
    have ec : fil (nr3 n0 n1 n9 n10 n18 n19 w h) [v] = [v] := by simp [fil, ho]
    rw [ec]
    obtain ⟨h1, r1, ap, G1, same⟩ := Gx.more v (by omega)
    have q21 := (same 0 (by omega)).trans q2x
    have cc := fun e r i => outG_cells e r i
    have ca := fun e r i => outG_atom e r i
    simp -implicitDefEqProofs (maxSteps := 4000000) only [c5b0, fgP, t0, t1, t5, t13, t14, t57, t58, t59, g1, w1, hx, hr, hr', k11, kn, ra, rb, sb, hat, hcl, hce, hln, ap, cc, ca, push_cast, Nat.reduceAdd, Nat.reduceMul, Nat.reduceSub, Nat.reduceLT, Nat.reduceLeDiff, Nat.reduceEqDiff, Nat.reducePow, Int.reduceToNat, Int.reduceLT, Int.reduceLE, Int.reduceNeg, Int.reduceEq, Int.reducePow, reduceIte, reduceCtorEq, Int.reduceMul, Int.reduceAdd, Int.reduceSub, Int.reduceMod, Int.reduceDiv, Int.reduceTDiv, Int.reduceTMod, iter_s]
    refine ⟨_, rfl, ?_⟩
    exact ⟨_, _, r1, rfl, rfl, rfl, rfl, rfl, rfl, by rw [List.length_append]; rfl, rfl, rfl, rfl, q21, G1⟩
omit hS hC hp hc hl s0 s1 s2 in
theorem prog_last (K : Nat) (s : St) (hs : ST q n0 n1 n2 n3 n4 n5 n6 n7 n8 n9 n10 n11 n12 n13 n14 n15 n16 n17 n18 n19 n20 n21 n22 n23 n24 n25 n26 n27 n28 n29 n30 n31 m0 m1 m2 m3 m4 m5 m6 m7 m8 m9 m10 m11 m12 m13 m14 m15 v0 v1 v2 v3 u0 u1 u2 u3 dfn vt0 vt1 vt2 vt3 vt4 vt5 vt6 b0 b1 b2 b3 cu txx wr iw ih wh cr cg cb ca0 cz cs sx0 sx1 sx2 sx3 p so L w h C S C.length s) :
    ∃ s', evCode (evF cm K) K 0 c5b0 (cleanN fgP s) = some (.exit 0, s') ∧ ST q n0 n1 n2 n3 n4 n5 n6 n7 n8 n9 n10 n11 n12 n13 n14 n15 n16 n17 n18 n19 n20 n21 n22 n23 n24 n25 n26 n27 n28 n29 n30 n31 m0 m1 m2 m3 m4 m5 m6 m7 m8 m9 m10 m11 m12 m13 m14 m15 v0 v1 v2 v3 u0 u1 u2 u3 dfn vt0 vt1 vt2 vt3 vt4 vt5 vt6 b0 b1 b2 b3 cu txx wr iw ih wh cr cg cb ca0 cz cs sx0 sx1 sx2 sx3 p so L w h C S C.length s' := by
  obtain ⟨T, hh, r, rfl, ht, t0, t1, t5, t13, t14, t57, t58, t59, q2, G⟩ := hs
  rw [tl81 ht]
  have g1 : ¬ (C.length : Int) < (C.length : Int) := by omega
  simp -implicitDefEqProofs only [c5b0, fgP, t0, t1, t5, t13, t14, t57, t58, t59, g1, push_cast, Nat.reduceAdd, Nat.reduceMul, Nat.reduceSub, Nat.reduceLT, Nat.reduceLeDiff, Nat.reduceEqDiff, Nat.reducePow, Int.reduceToNat, Int.reduceLT, Int.reduceLE, Int.reduceNeg, Int.reduceEq, Int.reducePow, reduceIte, reduceCtorEq, Int.reduceMul, Int.reduceAdd, Int.reduceSub, Int.reduceMod, Int.reduceDiv, Int.reduceTDiv, Int.reduceTMod, iter_s]
  refine ⟨_, rfl, ?_⟩
  exact ⟨_, hh, r, rfl, rfl, rfl, rfl, rfl, rfl, rfl, rfl, rfl, rfl, q2, G⟩
end
section
variable (q n0 n1 n2 n3 n4 n5 n6 n7 n8 n9 n10 n11 n12 n13 n14 n15 n16 n17 n18 n19 n20 n21 n22 n23 n24 n25 n26 n27 n28 n29 n30 n31 m0 m1 m2 m3 m4 m5 m6 m7 m8 m9 m10 m11 m12 m13 m14 m15 v0 v1 v2 v3 u0 u1 u2 u3 dfn vt0 vt1 vt2 vt3 vt4 vt5 vt6 b0 b1 b2 b3 cu txx wr iw ih wh cr cg cb ca0 cz cs sx0 sx1 sx2 sx3 : Int) (p so : Bool) (l : List Int) (L : LV) (hS : SlI l L) (w h : Int)
include hS
theorem touchesf (k : Nat) (hp : ¬ pic w h) : evP (evF cm (k + 800)) 5 [.i w, .i h, .agg [.i q, .i n0, .i n1, .i n2, .i n3, .i n4, .i n5, .i n6, .i n7, .i n8, .i n9, .i n10, .i n11, .i n12, .i n13, .i n14, .i n15, .i n16, .i n17, .i n18, .i n19, .i n20, .i n21, .i n22, .i n23, .i n24, .i n25, .i n26, .i n27, .i n28, .i n29, .i n30, .i n31, .i m0, .i m1, .i m2, .i m3, .i m4, .i m5, .i m6, .i m7, .i m8, .i m9, .i m10, .i m11, .i m12, .i m13, .i m14, .i m15, .i v0, .i v1, .i v2, .i v3, .i u0, .i u1, .i u2, .i u3, .i dfn, .b p, .i vt0, .i vt1, .i vt2, .i vt3, .i vt4, .i vt5, .i vt6, .i b0, .i b1, .i b2, .i b3, .i cu, .i txx, .i wr, .b so, .i iw, .i ih, L, .i wh, .i cr, .i cg, .i cb, .i ca0, .i cz, .i cs, .i sx0, .i sx1, .i sx2, .i sx3]] = some (.tup [.nils, .i 3]) := by
  have hat := hS.atm
  have hcl := hS.cl
  have hce := hS.cells
  have hln := hS.len
  rw [evP_fun (m := c5) rfl _ _ rfl]
  simp -implicitDefEqProofs (maxSteps := 4000000) only [c5, hat, hcl, hce, hln, w_countf _ _ _ hp, push_cast, Nat.reduceAdd, Nat.reduceMul, Nat.reduceSub, Nat.reduceLT, Nat.reduceLeDiff, Nat.reduceEqDiff, Nat.reducePow, Int.reduceToNat, Int.reduceLT, Int.reduceLE, Int.reduceNeg, Int.reduceEq, Int.reducePow, reduceIte, reduceCtorEq, Int.reduceMul, Int.reduceAdd, Int.reduceSub, Int.reduceMod, Int.reduceDiv, Int.reduceTDiv, Int.reduceTMod]
variable (hp : pic w h)
include hp
theorem touchesE (k : Nat) (e : Int) (he : ∀ k, evP (evF cm (k + 80)) 15 [.agg [.i q, .i n0, .i n1, .i n2, .i n3, .i n4, .i n5, .i n6, .i n7, .i n8, .i n9, .i n10, .i n11, .i n12, .i n13, .i n14, .i n15, .i n16, .i n17, .i n18, .i n19, .i n20, .i n21, .i n22, .i n23, .i n24, .i n25, .i n26, .i n27, .i n28, .i n29, .i n30, .i n31, .i m0, .i m1, .i m2, .i m3, .i m4, .i m5, .i m6, .i m7, .i m8, .i m9, .i m10, .i m11, .i m12, .i m13, .i m14, .i m15, .i v0, .i v1, .i v2, .i v3, .i u0, .i u1, .i u2, .i u3, .i dfn, .b p, .i vt0, .i vt1, .i vt2, .i vt3, .i vt4, .i vt5, .i vt6, .i b0, .i b1, .i b2, .i b3, .i cu, .i txx, .i wr, .b so, .i iw, .i ih, L, .i wh, .i cr, .i cg, .i cb, .i ca0, .i cz, .i cs, .i sx0, .i sx1, .i sx2, .i sx3]] = some (.i e)) (h0 : ¬ e = 0) : evP (evF cm (k + 800)) 5 [.i w, .i h, .agg [.i q, .i n0, .i n1, .i n2, .i n3, .i n4, .i n5, .i n6, .i n7, .i n8, .i n9, .i n10, .i n11, .i n12, .i n13, .i n14, .i n15, .i n16, .i n17, .i n18, .i n19, .i n20, .i n21, .i n22, .i n23, .i n24, .i n25, .i n26, .i n27, .i n28, .i n29, .i n30, .i n31, .i m0, .i m1, .i m2, .i m3, .i m4, .i m5, .i m6, .i m7, .i m8, .i m9, .i m10, .i m11, .i m12, .i m13, .i m14, .i m15, .i v0, .i v1, .i v2, .i v3, .i u0, .i u1, .i u2, .i u3, .i dfn, .b p, .i vt0, .i vt1, .i vt2, .i vt3, .i vt4, .i vt5, .i vt6, .i b0, .i b1, .i b2, .i b3, .i cu, .i txx, .i wr, .b so, .i iw, .i ih, L, .i wh, .i cr, .i cg, .i cb, .i ca0, .i cz, .i cs, .i sx0, .i sx1, .i sx2, .i sx3]] = some (.tup [.nils, .i e]) := by
  have hat := hS.atm
  have hcl := hS.cl
  have hce := hS.cells
  have hln := hS.len
  rw [evP_fun (m := c5) rfl _ _ rfl]
  simp -implicitDefEqProofs (maxSteps := 4000000) only [c5, hat, hcl, hce, hln, w_count _ _ _ hp, he, h0, push_cast, Nat.reduceAdd, Nat.reduceMul, Nat.reduceSub, Nat.reduceLT, Nat.reduceLeDiff, Nat.reduceEqDiff, Nat.reducePow, Int.reduceToNat, Int.reduceLT, Int.reduceLE, Int.reduceNeg, Int.reduceEq, Int.reducePow, reduceIte, reduceCtorEq, Int.reduceMul, Int.reduceAdd, Int.reduceSub, Int.reduceMod, Int.reduceDiv, Int.reduceTDiv, Int.reduceTMod]
theorem touchesC (k : Nat) (he : ∀ k, evP (evF cm (k + 80)) 15 [.agg [.i q, .i n0, .i n1, .i n2, .i n3, .i n4, .i n5, .i n6, .i n7, .i n8, .i n9, .i n10, .i n11, .i n12, .i n13, .i n14, .i n15, .i n16, .i n17, .i n18, .i n19, .i n20, .i n21, .i n22, .i n23, .i n24, .i n25, .i n26, .i n27, .i n28, .i n29, .i n30, .i n31, .i m0, .i m1, .i m2, .i m3, .i m4, .i m5, .i m6, .i m7, .i m8, .i m9, .i m10, .i m11, .i m12, .i m13, .i m14, .i m15, .i v0, .i v1, .i v2, .i v3, .i u0, .i u1, .i u2, .i u3, .i dfn, .b p, .i vt0, .i vt1, .i vt2, .i vt3, .i vt4, .i vt5, .i vt6, .i b0, .i b1, .i b2, .i b3, .i cu, .i txx, .i wr, .b so, .i iw, .i ih, L, .i wh, .i cr, .i cg, .i cb, .i ca0, .i cz, .i cs, .i sx0, .i sx1, .i sx2, .i sx3]] = some (.i 0)) (hq : q = 1) : evP (evF cm (k + 800)) 5 [.i w, .i h, .agg [.i q, .i n0, .i n1, .i n2, .i n3, .i n4, .i n5, .i n6, .i n7, .i n8, .i n9, .i n10, .i n11, .i n12, .i n13, .i n14, .i n15, .i n16, .i n17, .i n18, .i n19, .i n20, .i n21, .i n22, .i n23, .i n24, .i n25, .i n26, .i n27, .i n28, .i n29, .i n30, .i n31, .i m0, .i m1, .i m2, .i m3, .i m4, .i m5, .i m6, .i m7, .i m8, .i m9, .i m10, .i m11, .i m12, .i m13, .i m14, .i m15, .i v0, .i v1, .i v2, .i v3, .i u0, .i u1, .i u2, .i u3, .i dfn, .b p, .i vt0, .i vt1, .i vt2, .i vt3, .i vt4, .i vt5, .i vt6, .i b0, .i b1, .i b2, .i b3, .i cu, .i txx, .i wr, .b so, .i iw, .i ih, L, .i wh, .i cr, .i cg, .i cb, .i ca0, .i cz, .i cs, .i sx0, .i sx1, .i sx2, .i sx3]] = some (.tup [slv (fl (fun i => !off w h sx0 sx1 sx2 sx3 i) (cols w * cols h).toNat), .i 0]) := by
  subst hq
  have hat := hS.atm
  have hcl := hS.cl
  have hce := hS.cells
  have hln := hS.len
  have k16 := fun k => w_cover k w h sx0 sx1 sx2 sx3 hp
  have hq := slv_slI (fl (fun i => !off w h sx0 sx1 sx2 sx3 i) (cols w * cols h).toNat)
  generalize slv (fl (fun i => !off w h sx0 sx1 sx2 sx3 i) (cols w * cols h).toNat) = R at *
  have z1 := hq.cl
  have z2 := hq.atm
  have z3 := hq.cells
  have z4 := hq.fr
  rw [evP_fun (m := c5) rfl _ _ rfl]
  simp -implicitDefEqProofs (maxSteps := 4000000) only [c5, hat, hcl, hce, hln, w_count _ _ _ hp, he, k16, z1, z2, z3, z4, push_cast, Nat.reduceAdd, Nat.reduceMul, Nat.reduceSub, Nat.reduceLT, Nat.reduceLeDiff, Nat.reduceEqDiff, Nat.reducePow, Int.reduceToNat, Int.reduceLT, Int.reduceLE, Int.reduceNeg, Int.reduceEq, Int.reducePow, reduceIte, reduceCtorEq, Int.reduceMul, Int.reduceAdd, Int.reduceSub, Int.reduceMod, Int.reduceDiv, Int.reduceTDiv, Int.reduceTMod]
theorem touchesT (k : Nat) (he : ∀ k, evP (evF cm (k + 80)) 15 [.agg [.i q, .i n0, .i n1, .i n2, .i n3, .i n4, .i n5, .i n6, .i n7, .i n8, .i n9, .i n10, .i n11, .i n12, .i n13, .i n14, .i n15, .i n16, .i n17, .i n18, .i n19, .i n20, .i n21, .i n22, .i n23, .i n24, .i n25, .i n26, .i n27, .i n28, .i n29, .i n30, .i n31, .i m0, .i m1, .i m2, .i m3, .i m4, .i m5, .i m6, .i m7, .i m8, .i m9, .i m10, .i m11, .i m12, .i m13, .i m14, .i m15, .i v0, .i v1, .i v2, .i v3, .i u0, .i u1, .i u2, .i u3, .i dfn, .b p, .i vt0, .i vt1, .i vt2, .i vt3, .i vt4, .i vt5, .i vt6, .i b0, .i b1, .i b2, .i b3, .i cu, .i txx, .i wr, .b so, .i iw, .i ih, L, .i wh, .i cr, .i cg, .i cb, .i ca0, .i cz, .i cs, .i sx0, .i sx1, .i sx2, .i sx3]] = some (.i 0)) (hq : q = 0) (s0 : sm n0 n1 n2 n3 n4 n5 n6 n7 n8) (s1 : sm n9 n10 n11 n12 n13 n14 n15 n16 n17) (s2 : sm n18 n19 n20 n21 n22 n23 n24 n25 n26) {e0 e1 e2 e3 : Int} (hA : ∀ k, evP (evF cm (k + 2)) 17 [.agg [.i n28, .i n29, .i n30, .i n31], .agg [.i u0, .i u1, .i u2, .i u3]] = some (.agg [.i e0, .i e1, .i e2, .i e3])) :
    evP (evF cm (k + 1600)) 5 [.i w, .i h, .agg [.i q, .i n0, .i n1, .i n2, .i n3, .i n4, .i n5, .i n6, .i n7, .i n8, .i n9, .i n10, .i n11, .i n12, .i n13, .i n14, .i n15, .i n16, .i n17, .i n18, .i n19, .i n20, .i n21, .i n22, .i n23, .i n24, .i n25, .i n26, .i n27, .i n28, .i n29, .i n30, .i n31, .i m0, .i m1, .i m2, .i m3, .i m4, .i m5, .i m6, .i m7, .i m8, .i m9, .i m10, .i m11, .i m12, .i m13, .i m14, .i m15, .i v0, .i v1, .i v2, .i v3, .i u0, .i u1, .i u2, .i u3, .i dfn, .b p, .i vt0, .i vt1, .i vt2, .i vt3, .i vt4, .i vt5, .i vt6, .i b0, .i b1, .i b2, .i b3, .i cu, .i txx, .i wr, .b so, .i iw, .i ih, L, .i wh, .i cr, .i cg, .i cb, .i ca0, .i cz, .i cs, .i sx0, .i sx1, .i sx2, .i sx3]] = some (.tup [slv (fl (fun i => !off w h e0 e1 e2 e3 i && nr3 n0 n1 n9 n10 n18 n19 w h i) (cols w * cols h).toNat), .i 0]) := by
  subst hq
  have hcc := cc_bound hp
  have hat := hS.atm
  have hcl := hS.cl
  have hce := hS.cells
  have hln := hS.len
  have k16 := fun k => w_cover k w h e0 e1 e2 e3 hp
  have hff := fil_fl (nr3 n0 n1 n9 n10 n18 n19 w h) (fun i => !off w h e0 e1 e2 e3 i) (cols w * cols h).toNat
  have hm : ∀ x ∈ fl (fun i => !off w h e0 e1 e2 e3 i) (cols w * cols h).toNat, 0 ≤ x ∧ x < cols w * cols h := fun x hx => by
    obtain ⟨i, rfl, hi⟩ := fl_mem _ _ x hx; omega
  have hll := fl_len (fun i => !off w h e0 e1 e2 e3 i) (cols w * cols h).toNat
  have hq := slv_slI (fl (fun i => !off w h e0 e1 e2 e3 i) (cols w * cols h).toNat)
  rw [← hff]
  generalize fl (fun i => !off w h e0 e1 e2 e3 i) (cols w * cols h).toNat = C at *
  generalize slv C = R at *
  have z1 := hq.cl
  have z2 := hq.atm
  have z3 := hq.cells
  have z4 := hq.fr
  have z5 := hq.len
  rw [evP_fun (m := c5) rfl _ _ rfl]
  have key : ∀ s I, iter (evCode (evF cm (k + 1599)) (k + 1599) 0 c5b0) (cleanN fgP) (k + 1599) s = I → ST 0 n0 n1 n2 n3 n4 n5 n6 n7 n8 n9 n10 n11 n12 n13 n14 n15 n16 n17 n18 n19 n20 n21 n22 n23 n24 n25 n26 n27 n28 n29 n30 n31 m0 m1 m2 m3 m4 m5 m6 m7 m8 m9 m10 m11 m12 m13 m14 m15 v0 v1 v2 v3 u0 u1 u2 u3 dfn vt0 vt1 vt2 vt3 vt4 vt5 vt6 b0 b1 b2 b3 cu txx wr iw ih wh cr cg cb ca0 cz cs sx0 sx1 sx2 sx3 p so L w h C R 0 s → ∃ s', I = some (.exit 0, s') ∧ ST 0 n0 n1 n2 n3 n4 n5 n6 n7 n8 n9 n10 n11 n12 n13 n14 n15 n16 n17 n18 n19 n20 n21 n22 n23 n24 n25 n26 n27 n28 n29 n30 n31 m0 m1 m2 m3 m4 m5 m6 m7 m8 m9 m10 m11 m12 m13 m14 m15 v0 v1 v2 v3 u0 u1 u2 u3 dfn vt0 vt1 vt2 vt3 vt4 vt5 vt6 b0 b1 b2 b3 cu txx wr iw ih wh cr cg cb ca0 cz cs sx0 sx1 sx2 sx3 p so L w h C R C.length s' := by
    intro s I hI hs
    obtain ⟨s', h1, h3⟩ := iter_count (fun i s hi hs => prog_round 0 n0 n1 n2 n3 n4 n5 n6 n7 n8 n9 n10 n11 n12 n13 n14 n15 n16 n17 n18 n19 n20 n21 n22 n23 n24 n25 n26 n27 n28 n29 n30 n31 m0 m1 m2 m3 m4 m5 m6 m7 m8 m9 m10 m11 m12 m13 m14 m15 v0 v1 v2 v3 u0 u1 u2 u3 dfn vt0 vt1 vt2 vt3 vt4 vt5 vt6 b0 b1 b2 b3 cu txx wr iw ih wh cr cg cb ca0 cz cs sx0 sx1 sx2 sx3 p so l L hS w h C R hq hp hm (by omega) s0 s1 s2 (k + 1599) (by omega) i s hi hs) (fun s hs => prog_last 0 n0 n1 n2 n3 n4 n5 n6 n7 n8 n9 n10 n11 n12 n13 n14 n15 n16 n17 n18 n19 n20 n21 n22 n23 n24 n25 n26 n27 n28 n29 n30 n31 m0 m1 m2 m3 m4 m5 m6 m7 m8 m9 m10 m11 m12 m13 m14 m15 v0 v1 v2 v3 u0 u1 u2 u3 dfn vt0 vt1 vt2 vt3 vt4 vt5 vt6 b0 b1 b2 b3 cu txx wr iw ih wh cr cg cb ca0 cz cs sx0 sx1 sx2 sx3 p so L w h C R (k + 1599) s hs) C.length 0 s (k + 1599) (by omega) (by omega) hs
    exact ⟨s', hI.symm.trans h1, h3⟩
  simp -implicitDefEqProofs (maxSteps := 4000000) only [c5, hat, hcl, hce, hln, w_count _ _ _ hp, he, hA, k16, z1, z2, z3, z4, z5, push_cast, Nat.reduceAdd, Nat.reduceMul, Nat.reduceSub, Nat.reduceLT, Nat.reduceLeDiff, Nat.reduceEqDiff, Nat.reducePow, Int.reduceToNat, Int.reduceLT, Int.reduceLE, Int.reduceNeg, Int.reduceEq, Int.reducePow, reduceIte, reduceCtorEq, Int.reduceMul, Int.reduceAdd, Int.reduceSub, Int.reduceMod, Int.reduceDiv, Int.reduceTDiv, Int.reduceTMod]
  generalize hI : iter _ _ _ _ = I
  obtain ⟨s', hI2, T, hh, r, rfl, ht, t0, t1, t5, t13, t14, t57, t58, t59, q2, G⟩ := key _ _ hI ⟨_, _, 0, rfl, rfl, rfl, rfl, rfl, rfl, rfl, rfl, rfl, rfl, rfl, ⟨Nat.le_refl _, fun h => absurd rfl h⟩⟩
  subst hI2
  clear hI
  rw [List.take_length] at G t14
  rw [tl81 ht]
  cases hc : fil (nr3 n0 n1 n9 n10 n18 n19 w h) C with
  | nil =>
    rw [hc] at t14
    simp -implicitDefEqProofs only [outG, slv, t13, t14, List.length_nil, push_cast, Nat.reduceAdd, Nat.reduceMul, Nat.reduceSub, Nat.reduceLT, Nat.reduceLeDiff, Nat.reduceEqDiff, Nat.reducePow, Int.reduceToNat, Int.reduceLT, Int.reduceLE, Int.reduceNeg, Int.reduceEq, Int.reducePow, reduceIte, reduceCtorEq, Int.reduceMul, Int.reduceAdd, Int.reduceSub, Int.reduceMod, Int.reduceDiv, Int.reduceTDiv, Int.reduceTMod]
  | cons x l =>
    rw [hc] at t14 G
    have rr := rowOf_at (G.2 (by simp)).2
    simp only [List.length_cons, Nat.add_sub_cancel] at rr t14
    have h0 : (List.map LV.i l).length = l.length := List.length_map _
    have h1 : List.take l.length (List.map LV.i l) = List.map LV.i l := List.take_of_length_le (by rw [h0]; omega)
    have h2 := closedL_ints l
    simp -implicitDefEqProofs only [outG, slv, t13, t14, rr, h0, h1, h2, push_cast, Nat.reduceAdd, Nat.reduceMul, Nat.reduceSub, Nat.reduceLT, Nat.reduceLeDiff, Nat.reduceEqDiff, Nat.reducePow, Int.reduceToNat, Int.reduceLT, Int.reduceLE, Int.reduceNeg, Int.reduceEq, Int.reducePow, reduceIte, reduceCtorEq, Int.reduceMul, Int.reduceAdd, Int.reduceSub, Int.reduceMod, Int.reduceDiv, Int.reduceTDiv, Int.reduceTMod]
end
/-! ### alike -/
theorem tl26 {T : List LV} (h : T.length = 26) : T = [getT T 0, getT T 1, getT T 2, getT T 3, getT T 4, getT T 5, getT T 6, getT T 7, getT T 8, getT T 9, getT T 10, getT T 11, getT T 12, getT T 13, getT T 14, getT T 15, getT T 16, getT T 17, getT T 18, getT T 19, getT T 20, getT T 21, getT T 22, getT T 23, getT T 24, getT T 25] := tlT h
def fgA : List Nat := [16, 15, 4, 25, 24, 23, 22, 21, 20, 19, 18, 17, 14, 13, 12, 11]
def SA (S : LV) (i : Nat) (s : St) : Prop := ∃ T, s = (T, []) ∧ T.length = 26 ∧ getT T 0 = S ∧ getT T 1 = S ∧ getT T 5 = .i i
theorem alike_round (K : Nat) (l : List Int) (S : LV) (hS : SlI l S) (hl : l.length ≤ 5000) (i : Nat) (s : St) (hi' : i < l.length) (hs : SA S i s) :
    ∃ s', evCode (evF cm K) K 0 c8b0 (cleanN fgA s) = some (.nrm, s') ∧ SA S (i + 1) s' := by
  obtain ⟨T, rfl, ht, t0, t1, t5⟩ := hs
  rw [tl26 ht]
  have g1 : (i : Int) < (l.length : Int) := by omega
  have hx := hS.ix i (by omega) g1
  rw [Int.toNat_natCast] at hx
  have hr := rd_ints l i hi'
  have hr' := rd_ints' l i hi'
  have w1 : IntKind.i64.wrap ((i : Int) + 1) = ((i + 1 : Nat) : Int) := by rw [w64 _ (by omega) (by omega)]; rfl
  simp -implicitDefEqProofs only [c8b0, fgA, t0, t1, t5, g1, w1, hx, hr, hr', hS.len, hS.cl, hS.atm, eq_self, push_cast, Nat.reduceAdd, Nat.reduceMul, Nat.reduceSub, Nat.reduceLT, Nat.reduceLeDiff, Nat.reduceEqDiff, Nat.reducePow, Int.reduceToNat, Int.reduceLT, Int.reduceLE, Int.reduceNeg, Int.reduceEq, Int.reducePow, reduceIte, reduceCtorEq, Int.reduceMul, Int.reduceAdd, Int.reduceSub, Int.reduceMod, Int.reduceDiv, Int.reduceTDiv, Int.reduceTMod, iter_s]
  refine ⟨_, rfl, ?_⟩
  exact ⟨_, rfl, rfl, rfl, rfl, rfl⟩
theorem alike_last (K : Nat) (l : List Int) (S : LV) (hS : SlI l S) (s : St) (hs : SA S l.length s) :
    ∃ s', evCode (evF cm K) K 0 c8b0 (cleanN fgA s) = some (.exit 0, s') ∧ SA S l.length s' := by
  obtain ⟨T, rfl, ht, t0, t1, t5⟩ := hs
  rw [tl26 ht]
  have g1 : ¬ (l.length : Int) < (l.length : Int) := by omega
  simp -implicitDefEqProofs only [c8b0, fgA, t0, t1, t5, g1, hS.len, push_cast, Nat.reduceAdd, Nat.reduceMul, Nat.reduceSub, Nat.reduceLT, Nat.reduceLeDiff, Nat.reduceEqDiff, Nat.reducePow, Int.reduceToNat, Int.reduceLT, Int.reduceLE, Int.reduceNeg, Int.reduceEq, Int.reducePow, reduceIte, reduceCtorEq, Int.reduceMul, Int.reduceAdd, Int.reduceSub, Int.reduceMod, Int.reduceDiv, Int.reduceTDiv, Int.reduceTMod, iter_s]
  refine ⟨_, rfl, ?_⟩
  exact ⟨_, rfl, rfl, rfl, rfl, rfl⟩
theorem alike_ok (k : Nat) (l : List Int) (S : LV) (hS : SlI l S) (hl : l.length ≤ 256) : evP (evF cm (k + 400)) 8 [S, S] = some (.b true) := by
  rw [evP_fun (m := c8) rfl _ _ rfl]
  have key : ∀ s I, iter (evCode (evF cm (k + 399)) (k + 399) 0 c8b0) (cleanN fgA) (k + 399) s = I → SA S 0 s → ∃ s', I = some (.exit 0, s') ∧ SA S l.length s' := by
    intro s I hI hs
    obtain ⟨s', h1, h3⟩ := iter_count (fun i s hi hs => alike_round (k + 399) l S hS (by omega) i s hi hs) (fun s hs => alike_last (k + 399) l S hS s hs) l.length 0 s (k + 399) (by omega) (by omega) hs
    exact ⟨s', hI.symm.trans h1, h3⟩
  simp -implicitDefEqProofs only [c8, hS.len, hS.cl, hS.atm, eq_self, push_cast, Nat.reduceAdd, Nat.reduceMul, Nat.reduceSub, Nat.reduceLT, Nat.reduceLeDiff, Nat.reduceEqDiff, Nat.reducePow, Int.reduceToNat, Int.reduceLT, Int.reduceLE, Int.reduceNeg, Int.reduceEq, Int.reducePow, reduceIte, reduceCtorEq, Int.reduceMul, Int.reduceAdd, Int.reduceSub, Int.reduceMod, Int.reduceDiv, Int.reduceTDiv, Int.reduceTMod]
  generalize hI : iter _ _ _ _ = I
  obtain ⟨s', hI2, T, rfl, ht, t0, t1, t5⟩ := key _ _ hI ⟨_, rfl, rfl, rfl, rfl, rfl⟩
  subst hI2
  clear hI
  rw [tl26 ht]
  simp -implicitDefEqProofs only [push_cast, Nat.reduceAdd, Nat.reduceMul, Nat.reduceSub, Nat.reduceLT, Nat.reduceLeDiff, Nat.reduceEqDiff, Nat.reducePow, Int.reduceToNat, Int.reduceLT, Int.reduceLE, Int.reduceNeg, Int.reduceEq, Int.reducePow, reduceIte, reduceCtorEq, Int.reduceMul, Int.reduceAdd, Int.reduceSub, Int.reduceMod, Int.reduceDiv, Int.reduceTDiv, Int.reduceTMod]
/-! ### the law -/
theorem law3 (k : Nat) (q n0 n1 n2 n3 n4 n5 n6 n7 n8 n9 n10 n11 n12 n13 n14 n15 n16 n17 n18 n19 n20 n21 n22 n23 n24 n25 n26 n27 n28 n29 n30 n31 m0 m1 m2 m3 m4 m5 m6 m7 m8 m9 m10 m11 m12 m13 m14 m15 v0 v1 v2 v3 u0 u1 u2 u3 dfn vt0 vt1 vt2 vt3 vt4 vt5 vt6 b0 b1 b2 b3 cu txx wr iw ih wh cr cg cb ca0 cz cs sx0 sx1 sx2 sx3 : Int) (p so : Bool) (l : List Int) (L : LV) (hS : SlI l L) (w h : Int) : evP (evF cm (k + 3000)) 3 [.i w, .i h, .agg [.i q, .i n0, .i n1, .i n2, .i n3, .i n4, .i n5, .i n6, .i n7, .i n8, .i n9, .i n10, .i n11, .i n12, .i n13, .i n14, .i n15, .i n16, .i n17, .i n18, .i n19, .i n20, .i n21, .i n22, .i n23, .i n24, .i n25, .i n26, .i n27, .i n28, .i n29, .i n30, .i n31, .i m0, .i m1, .i m2, .i m3, .i m4, .i m5, .i m6, .i m7, .i m8, .i m9, .i m10, .i m11, .i m12, .i m13, .i m14, .i m15, .i v0, .i v1, .i v2, .i v3, .i u0, .i u1, .i u2, .i u3, .i dfn, .b p, .i vt0, .i vt1, .i vt2, .i vt3, .i vt4, .i vt5, .i vt6, .i b0, .i b1, .i b2, .i b3, .i cu, .i txx, .i wr, .b so, .i iw, .i ih, L, .i wh, .i cr, .i cg, .i cb, .i ca0, .i cz, .i cs, .i sx0, .i sx1, .i sx2, .i sx3]] = some (.b true) := by
  have ea : ∀ k, evP (evF cm (k + 200)) 4 [] = some (.b true) := e_awake
  have hat := hS.atm
  have hcl := hS.cl
  have hce := hS.cells
  have hln := hS.len
  rw [evP_fun (m := c3) rfl _ _ rfl]
  by_cases hn : (5000 : Int) < (l.length : Int)
  · simp -implicitDefEqProofs (maxSteps := 4000000) only [c3, hat, hcl, hce, hln, hn, ea, push_cast, Nat.reduceAdd, Nat.reduceMul, Nat.reduceSub, Nat.reduceLT, Nat.reduceLeDiff, Nat.reduceEqDiff, Nat.reducePow, Int.reduceToNat, Int.reduceLT, Int.reduceLE, Int.reduceNeg, Int.reduceEq, Int.reducePow, reduceIte, reduceCtorEq, Int.reduceMul, Int.reduceAdd, Int.reduceSub, Int.reduceMod, Int.reduceDiv, Int.reduceTDiv, Int.reduceTMod]
  by_cases hp : pic w h
  rotate_left
  · have e5 := fun k => touchesf q n0 n1 n2 n3 n4 n5 n6 n7 n8 n9 n10 n11 n12 n13 n14 n15 n16 n17 n18 n19 n20 n21 n22 n23 n24 n25 n26 n27 n28 n29 n30 n31 m0 m1 m2 m3 m4 m5 m6 m7 m8 m9 m10 m11 m12 m13 m14 m15 v0 v1 v2 v3 u0 u1 u2 u3 dfn vt0 vt1 vt2 vt3 vt4 vt5 vt6 b0 b1 b2 b3 cu txx wr iw ih wh cr cg cb ca0 cz cs sx0 sx1 sx2 sx3 p so l L hS w h k hp
    simp -implicitDefEqProofs (maxSteps := 4000000) only [c3, hat, hcl, hce, hln, hn, ea, e5, w_isp, hp, push_cast, Nat.reduceAdd, Nat.reduceMul, Nat.reduceSub, Nat.reduceLT, Nat.reduceLeDiff, Nat.reduceEqDiff, Nat.reducePow, Int.reduceToNat, Int.reduceLT, Int.reduceLE, Int.reduceNeg, Int.reduceEq, Int.reducePow, reduceIte, reduceCtorEq, Int.reduceMul, Int.reduceAdd, Int.reduceSub, Int.reduceMod, Int.reduceDiv, Int.reduceTDiv, Int.reduceTMod]
  obtain ⟨e, he1, he2, he3⟩ := prim_chk q n0 n1 n2 n3 n4 n5 n6 n7 n8 n9 n10 n11 n12 n13 n14 n15 n16 n17 n18 n19 n20 n21 n22 n23 n24 n25 n26 n27 n28 n29 n30 n31 m0 m1 m2 m3 m4 m5 m6 m7 m8 m9 m10 m11 m12 m13 m14 m15 v0 v1 v2 v3 u0 u1 u2 u3 dfn vt0 vt1 vt2 vt3 vt4 vt5 vt6 b0 b1 b2 b3 cu txx wr iw ih wh cr cg cb ca0 cz cs sx0 sx1 sx2 sx3 p so l L hS
  by_cases h0 : e = 0
  rotate_left
  · have e5 := fun k => touchesE q n0 n1 n2 n3 n4 n5 n6 n7 n8 n9 n10 n11 n12 n13 n14 n15 n16 n17 n18 n19 n20 n21 n22 n23 n24 n25 n26 n27 n28 n29 n30 n31 m0 m1 m2 m3 m4 m5 m6 m7 m8 m9 m10 m11 m12 m13 m14 m15 v0 v1 v2 v3 u0 u1 u2 u3 dfn vt0 vt1 vt2 vt3 vt4 vt5 vt6 b0 b1 b2 b3 cu txx wr iw ih wh cr cg cb ca0 cz cs sx0 sx1 sx2 sx3 p so l L hS w h hp k e he1 h0
    simp -implicitDefEqProofs (maxSteps := 4000000) only [c3, hat, hcl, hce, hln, hn, ea, e5, w_isp, hp, he2, h0, eq_self, push_cast, Nat.reduceAdd, Nat.reduceMul, Nat.reduceSub, Nat.reduceLT, Nat.reduceLeDiff, Nat.reduceEqDiff, Nat.reducePow, Int.reduceToNat, Int.reduceLT, Int.reduceLE, Int.reduceNeg, Int.reduceEq, Int.reducePow, reduceIte, reduceCtorEq, Int.reduceMul, Int.reduceAdd, Int.reduceSub, Int.reduceMod, Int.reduceDiv, Int.reduceTDiv, Int.reduceTMod]
  subst h0
  have hcc := cc_bound hp
  obtain ⟨R, hR, e5, e9⟩ : ∃ R : List Int, R.length ≤ 256 ∧ (∀ k, evP (evF cm (k + 1600)) 5 [.i w, .i h, .agg [.i q, .i n0, .i n1, .i n2, .i n3, .i n4, .i n5, .i n6, .i n7, .i n8, .i n9, .i n10, .i n11, .i n12, .i n13, .i n14, .i n15, .i n16, .i n17, .i n18, .i n19, .i n20, .i n21, .i n22, .i n23, .i n24, .i n25, .i n26, .i n27, .i n28, .i n29, .i n30, .i n31, .i m0, .i m1, .i m2, .i m3, .i m4, .i m5, .i m6, .i m7, .i m8, .i m9, .i m10, .i m11, .i m12, .i m13, .i m14, .i m15, .i v0, .i v1, .i v2, .i v3, .i u0, .i u1, .i u2, .i u3, .i dfn, .b p, .i vt0, .i vt1, .i vt2, .i vt3, .i vt4, .i vt5, .i vt6, .i b0, .i b1, .i b2, .i b3, .i cu, .i txx, .i wr, .b so, .i iw, .i ih, L, .i wh, .i cr, .i cg, .i cb, .i ca0, .i cz, .i cs, .i sx0, .i sx1, .i sx2, .i sx3]] = some (.tup [slv R, .i 0])) ∧ (∀ k, evP (evF cm (k + 500)) 9 [.i w, .i h, .agg [.i q, .i n0, .i n1, .i n2, .i n3, .i n4, .i n5, .i n6, .i n7, .i n8, .i n9, .i n10, .i n11, .i n12, .i n13, .i n14, .i n15, .i n16, .i n17, .i n18, .i n19, .i n20, .i n21, .i n22, .i n23, .i n24, .i n25, .i n26, .i n27, .i n28, .i n29, .i n30, .i n31, .i m0, .i m1, .i m2, .i m3, .i m4, .i m5, .i m6, .i m7, .i m8, .i m9, .i m10, .i m11, .i m12, .i m13, .i m14, .i m15, .i v0, .i v1, .i v2, .i v3, .i u0, .i u1, .i u2, .i u3, .i dfn, .b p, .i vt0, .i vt1, .i vt2, .i vt3, .i vt4, .i vt5, .i vt6, .i b0, .i b1, .i b2, .i b3, .i cu, .i txx, .i wr, .b so, .i iw, .i ih, L, .i wh, .i cr, .i cg, .i cb, .i ca0, .i cz, .i cs, .i sx0, .i sx1, .i sx2, .i sx3]] = some (slv R)) := by
    rcases he3 rfl with hq | ⟨hq, s0, s1, s2⟩
    · refine ⟨fl (fun i => !off w h sx0 sx1 sx2 sx3 i) (cols w * cols h).toNat, ?_, fun k => touchesC q n0 n1 n2 n3 n4 n5 n6 n7 n8 n9 n10 n11 n12 n13 n14 n15 n16 n17 n18 n19 n20 n21 n22 n23 n24 n25 n26 n27 n28 n29 n30 n31 m0 m1 m2 m3 m4 m5 m6 m7 m8 m9 m10 m11 m12 m13 m14 m15 v0 v1 v2 v3 u0 u1 u2 u3 dfn vt0 vt1 vt2 vt3 vt4 vt5 vt6 b0 b1 b2 b3 cu txx wr iw ih wh cr cg cb ca0 cz cs sx0 sx1 sx2 sx3 p so l L hS w h hp (k + 800) he1 hq, fun k => ref_touches q n0 n1 n2 n3 n4 n5 n6 n7 n8 n9 n10 n11 n12 n13 n14 n15 n16 n17 n18 n19 n20 n21 n22 n23 n24 n25 n26 n27 n28 n29 n30 n31 m0 m1 m2 m3 m4 m5 m6 m7 m8 m9 m10 m11 m12 m13 m14 m15 v0 v1 v2 v3 u0 u1 u2 u3 dfn vt0 vt1 vt2 vt3 vt4 vt5 vt6 b0 b1 b2 b3 cu txx wr iw ih wh cr cg cb ca0 cz cs sx0 sx1 sx2 sx3 p so l L hS w h _ hp (fun k i hi => touched1 q n0 n1 n2 n3 n4 n5 n6 n7 n8 n9 n10 n11 n12 n13 n14 n15 n16 n17 n18 n19 n20 n21 n22 n23 n24 n25 n26 n27 n28 n29 n30 n31 m0 m1 m2 m3 m4 m5 m6 m7 m8 m9 m10 m11 m12 m13 m14 m15 v0 v1 v2 v3 u0 u1 u2 u3 dfn vt0 vt1 vt2 vt3 vt4 vt5 vt6 b0 b1 b2 b3 cu txx wr iw ih wh cr cg cb ca0 cz cs sx0 sx1 sx2 sx3 p so l L hS w h hp k i (by omega) hq) k⟩
      have := fl_len (fun i => !off w h sx0 sx1 sx2 sx3 i) (cols w * cols h).toNat
      omega
    · obtain ⟨e0, e1, e2, e3, hA, hB⟩ := and_ex n28 n29 n30 n31 u0 u1 u2 u3
      refine ⟨fl (fun i => !off w h e0 e1 e2 e3 i && nr3 n0 n1 n9 n10 n18 n19 w h i) (cols w * cols h).toNat, ?_, fun k => touchesT q n0 n1 n2 n3 n4 n5 n6 n7 n8 n9 n10 n11 n12 n13 n14 n15 n16 n17 n18 n19 n20 n21 n22 n23 n24 n25 n26 n27 n28 n29 n30 n31 m0 m1 m2 m3 m4 m5 m6 m7 m8 m9 m10 m11 m12 m13 m14 m15 v0 v1 v2 v3 u0 u1 u2 u3 dfn vt0 vt1 vt2 vt3 vt4 vt5 vt6 b0 b1 b2 b3 cu txx wr iw ih wh cr cg cb ca0 cz cs sx0 sx1 sx2 sx3 p so l L hS w h hp k he1 hq s0 s1 s2 hA, fun k => ref_touches q n0 n1 n2 n3 n4 n5 n6 n7 n8 n9 n10 n11 n12 n13 n14 n15 n16 n17 n18 n19 n20 n21 n22 n23 n24 n25 n26 n27 n28 n29 n30 n31 m0 m1 m2 m3 m4 m5 m6 m7 m8 m9 m10 m11 m12 m13 m14 m15 v0 v1 v2 v3 u0 u1 u2 u3 dfn vt0 vt1 vt2 vt3 vt4 vt5 vt6 b0 b1 b2 b3 cu txx wr iw ih wh cr cg cb ca0 cz cs sx0 sx1 sx2 sx3 p so l L hS w h _ hp (fun k i hi => touched0 q n0 n1 n2 n3 n4 n5 n6 n7 n8 n9 n10 n11 n12 n13 n14 n15 n16 n17 n18 n19 n20 n21 n22 n23 n24 n25 n26 n27 n28 n29 n30 n31 m0 m1 m2 m3 m4 m5 m6 m7 m8 m9 m10 m11 m12 m13 m14 m15 v0 v1 v2 v3 u0 u1 u2 u3 dfn vt0 vt1 vt2 vt3 vt4 vt5 vt6 b0 b1 b2 b3 cu txx wr iw ih wh cr cg cb ca0 cz cs sx0 sx1 sx2 sx3 p so l L hS w h hp k i (by omega) hq s0 s1 s2 hB) k⟩
      have := fl_len (fun i => !off w h e0 e1 e2 e3 i && nr3 n0 n1 n9 n10 n18 n19 w h i) (cols w * cols h).toNat
      omega
  have hq := slv_slI R
  have e8 := fun k => alike_ok k R (slv R) hq hR
  generalize slv R = S at *
  have z1 := hq.cl
  have z2 := hq.atm
  have z3 := hq.cells
  have z4 := hq.fr
  have z5 := hq.len
  simp -implicitDefEqProofs (maxSteps := 4000000) only [c3, hat, hcl, hce, hln, hn, ea, e5, e8, e9, w_isp, hp, he2, z1, z2, z3, z4, z5, push_cast, Nat.reduceAdd, Nat.reduceMul, Nat.reduceSub, Nat.reduceLT, Nat.reduceLeDiff, Nat.reduceEqDiff, Nat.reducePow, Int.reduceToNat, Int.reduceLT, Int.reduceLE, Int.reduceNeg, Int.reduceEq, Int.reducePow, reduceIte, reduceCtorEq, Int.reduceMul, Int.reduceAdd, Int.reduceSub, Int.reduceMod, Int.reduceDiv, Int.reduceTDiv, Int.reduceTMod]
end Go.Proofs.Ytjgnjpbplnmdmaa

