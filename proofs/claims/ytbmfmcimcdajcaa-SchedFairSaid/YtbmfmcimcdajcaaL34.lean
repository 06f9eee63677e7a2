/- The document's turns, as the evaluator answers. -/
import Derived.Test.YtbmfmcimcdajcaaK34
set_option linter.unusedSimpArgs false
set_option linter.unusedVariables false
set_option maxRecDepth 100000
set_option maxHeartbeats 16000000
namespace Go.Proofs.Ytbmfmcimcdajcaa
open Go
theorem pk_slI {L : List Int} {S : LV} (h : pkV L S) : SlI L S := by
  rcases h with ⟨rfl, rfl⟩ | rfl
  · exact slI_nil
  · exact slI_im L false
def fg10 : List Nat := [64, 63, 62, 61, 60, 59, 58, 57, 56, 55, 54, 53, 52, 51, 50, 49, 48, 47, 46, 45, 44, 43, 42, 41, 40, 39, 38, 37, 36, 35, 34, 33, 32, 31, 30, 29, 28, 27, 26, 25, 24, 23, 22, 21, 20, 19, 18, 17, 16]
def S10 (n : Nat) (PK : LV) (most : Int) (m : Mch) (s : St) : Prop := ∃ T, s = (T, ⟨0, m.L.map LV.i⟩ :: tailS m.out) ∧ T.length = 69 ∧ getT T 1 = PK ∧ getT T 2 = .i most ∧ getT T 8 = .sl 0 0 0 n 1 n ∧ getT T 9 = outS 1 m.out ∧ getT T 10 = .i m.last
def Inv10 (n B : Nat) (P0 : List Int) (m : Mch) : Prop := Inv17 n B m ∧ m.P = P0.drop m.out.length ∧ (∀ i : Nat, m.L.getD i 0 ≤ 40)
theorem inv10_next {n B : Nat} {P0 : List Int} {m : Mch} {most : Int} (h : Inv10 n B P0 m) (hd : ¬ m.done most) : Inv10 n B P0 m.next := by
  have hl : liv m.L ≠ [] := fun e => hd (.inl e)
  obtain ⟨a, b⟩ := mem_liv.1 (tn_mem m hl)
  refine ⟨inv_next h.1 hd, ?_, fun i => ?_⟩
  · simp only [Mch.next, List.length_append, List.length_singleton, h.2.1]
    rw [List.tail_drop]
  · simp only [Mch.next, dec_get a]
    have h1 := h.2.2 m.tn
    have h2 := h.2.2 i
    split <;> omega
theorem step10 (K : Nat) (hK : 30 ≤ K) (n B : Nat) (hn : n ≤ 12) (hB : B ≤ 480) (P0 : List Int) (PK : LV) (hPK : pkV P0 PK) (most : Int) (m : Mch) (s : St) (hv : Inv10 n B P0 m) (hd : ¬ m.done most) (hs : S10 n PK most m s) :
    ∃ s', evCode (evF cm K) K 0 c10b0 (cleanN fg10 s) = some (.nrm, s') ∧ S10 n PK most m.next s' := by
  obtain ⟨k, rfl⟩ : ∃ k, K = k + 20 := ⟨K - 20, by omega⟩
  obtain ⟨T, rfl, ht, t1, t2, t8, t9, t10⟩ := hs
  obtain ⟨⟨v1, v2, v3, v4, v5⟩, v6, v7⟩ := hv
  have hl : liv m.L ≠ [] := fun e => hd (.inl e)
  have hmost : (m.out.length : Int) < most := by
    by_cases h : (m.out.length : Int) < most
    · exact h
    · exact absurd (.inr (by omega)) hd
  have hl0 := List.length_pos_iff.2 hl
  have hln : (liv m.L).length ≤ 12 := by have := cnt_le m.L m.L.length; rw [liv_length]; omega
  have gl : (0 : Int) < ((liv m.L).length : Int) := by omega
  obtain ⟨a1, a2⟩ := mem_liv.1 (tn_mem m hl)
  have a3 := v7 m.tn
  have hlo := len_out 1 m.out
  have hap : ∀ r1 : Row, appE 0 (r1 :: tailS m.out) 1 8 [.i m.tn] 1 (outS 1 m.out) = some (outS 1 (m.out ++ [(m.tn : Int)]), r1 :: tailS (m.out ++ [(m.tn : Int)])) :=
    fun r1 => app_out (g := []) (t0 := [r1]) rfl (m.tn : Int) m.out (by omega)
  have hSl := slI_im m.L false
  rw [v1] at hSl
  have k12 := fun k => e12 k m.L _ hSl (by omega)
  have cl := closedL_ints m.L
  have tk : List.take n (m.L.map LV.i) = m.L.map LV.i := List.take_of_length_le (by simp; omega)
  have tz : n ≤ (m.L.map LV.i).length := by simp; omega
  have gt : (m.tn : Int) < (n : Int) := by omega
  have gt0 : (0 : Int) ≤ (m.tn : Int) := by omega
  have gtz : m.tn + 1 ≤ (m.L.map LV.i).length := by simp; omega
  have hget : (m.L.map LV.i)[m.tn]? = some (.i (m.L.getD m.tn 0)) := by simp [a1]
  have w1 : IntKind.i64.wrap (m.L.getD m.tn 0 - 1) = m.L.getD m.tn 0 - 1 := w64 _ (by omega) (by omega)
  have hput : List.take m.tn (m.L.map LV.i) ++ [LV.i (m.L.getD m.tn 0 - 1)] ++ List.drop (m.tn + 1) (m.L.map LV.i) = (dec m.L m.tn).map LV.i := by
    unfold dec
    rw [List.set_eq_take_append_cons_drop, if_pos a1]
    simp [List.map_take, List.map_drop]
  rw [tl69 ht]
  by_cases hp : m.out.length < P0.length
  · have g1 : (m.out.length : Int) < (P0.length : Int) := by omega
    have hPs := pk_slI hPK
    have hx := hPs.ix m.out.length (by omega) g1
    rw [Int.toNat_natCast] at hx
    have hr := rd_ints P0 m.out.length hp
    have hr' := rd_ints' P0 m.out.length hp
    have hmP : ∃ P', m.P = P0.getD m.out.length 0 :: P' := by
      rw [v6, List.drop_eq_getElem_cons hp]
      exact ⟨_, by rw [List.getD_eq_getElem?_getD, List.getElem?_eq_getElem hp]; rfl⟩
    obtain ⟨P', hmP⟩ := hmP
    generalize P0.getD m.out.length 0 = p at *
    have hpb := v3 p (by rw [hmP]; simp)
    have k19 := fun k => e19 k p ((liv m.L).length : Int) hpb gl (by omega)
    have wm := modw p ((liv m.L).length : Int) hpb gl (by omega)
    have q1 := Int.emod_nonneg p (show ((liv m.L).length : Int) ≠ 0 by omega)
    have q2 := Int.emod_lt_of_pos p gl
    have htn : (liv m.L).getD (p % ((liv m.L).length : Int)).toNat 0 = m.tn := by unfold Mch.tn; rw [hmP]
    have k18 : ∀ k, evP (evF cm (k + 20)) 18 [.im (m.L.map LV.i) n false, .i (p % ((liv m.L).length : Int))] = some (.i (m.tn : Nat)) := by
      intro k
      have := e18 k m.L _ hSl (by omega) (p % ((liv m.L).length : Int)).toNat (by omega)
      rw [htn, show (((p % ((liv m.L).length : Int)).toNat : Nat) : Int) = p % ((liv m.L).length : Int) by omega] at this
      exact this
    simp -implicitDefEqProofs only [c10b0, fg10, t1, t2, t8, t9, t10, hlo, hPs.len, hx, hr, hr', k12, k18, k19, wm, cl, tk, tz, gt, gt0, gtz, hget, w1, hput, hap, hmost, gl, g1, call_B, orF_some, flat, flatL, push_cast, Nat.reduceAdd, Nat.reduceMul, Nat.reduceSub, Nat.reduceLT, Nat.reduceLeDiff, Nat.reduceEqDiff, Nat.reducePow, Int.reduceToNat, Int.reduceLT, Int.reduceLE, Int.reduceNeg, Int.reduceEq, Int.reducePow, reduceIte, reduceCtorEq, Int.reduceMul, Int.reduceAdd, Int.reduceSub, Int.reduceMod, Int.reduceDiv, Int.reduceTDiv, Int.reduceTMod, iter_s]
    exact ⟨_, rfl, _, rfl, rfl, rfl, rfl, rfl, rfl, rfl⟩
  · have g1 : ¬ (m.out.length : Int) < (P0.length : Int) := by omega
    have hPs := pk_slI hPK
    have hmP : m.P = [] := by rw [v6]; exact List.drop_of_length_le (by omega)
    have htn : (ring m.L m.last).headD 0 = m.tn := by unfold Mch.tn; rw [hmP]
    have k20 := fun k => e20 k m.L _ hSl (by omega) m.last v4.1 (by omega) hl
    rw [htn] at k20
    simp -implicitDefEqProofs only [c10b0, fg10, t1, t2, t8, t9, t10, hlo, hPs.len, k12, k20, cl, tk, tz, gt, gt0, gtz, hget, w1, hput, hap, hmost, gl, g1, call_B, orF_some, flat, flatL, push_cast, Nat.reduceAdd, Nat.reduceMul, Nat.reduceSub, Nat.reduceLT, Nat.reduceLeDiff, Nat.reduceEqDiff, Nat.reducePow, Int.reduceToNat, Int.reduceLT, Int.reduceLE, Int.reduceNeg, Int.reduceEq, Int.reducePow, reduceIte, reduceCtorEq, Int.reduceMul, Int.reduceAdd, Int.reduceSub, Int.reduceMod, Int.reduceDiv, Int.reduceTDiv, Int.reduceTMod, iter_s]
    exact ⟨_, rfl, _, rfl, rfl, rfl, rfl, rfl, rfl, rfl⟩
theorem last10 (K : Nat) (hK : 30 ≤ K) (n : Nat) (hn : n ≤ 12) (P0 : List Int) (PK : LV) (hPK : pkV P0 PK) (most : Int) (m : Mch) (s : St) (hv : m.L.length = n) (hd : m.done most) (hs : S10 n PK most m s) :
    ∃ s', evCode (evF cm K) K 0 c10b0 (cleanN fg10 s) = some (.exit 0, s') ∧ S10 n PK most m s' := by
  obtain ⟨k, rfl⟩ : ∃ k, K = k + 20 := ⟨K - 20, by omega⟩
  obtain ⟨T, rfl, ht, t1, t2, t8, t9, t10⟩ := hs
  have hSl := slI_im m.L false
  rw [hv] at hSl
  have k12 := fun k => e12 k m.L _ hSl (by omega)
  have hlo := len_out 1 m.out
  have cl := closedL_ints m.L
  have tk : List.take n (m.L.map LV.i) = m.L.map LV.i := List.take_of_length_le (by simp; omega)
  have tz : n ≤ (m.L.map LV.i).length := by simp; omega
  rw [tl69 ht]
  by_cases gl : (0 : Int) < ((liv m.L).length : Int)
  · have hm : ¬ (m.out.length : Int) < most := by
      rcases hd with h | h
      · rw [h] at gl; simp at gl
      · omega
    simp -implicitDefEqProofs only [c10b0, fg10, t1, t2, t8, t9, t10, hlo, k12, cl, tk, tz, hm, gl, call_B, orF_some, flat, flatL, push_cast, Nat.reduceAdd, Nat.reduceMul, Nat.reduceSub, Nat.reduceLT, Nat.reduceLeDiff, Nat.reduceEqDiff, Nat.reducePow, Int.reduceToNat, Int.reduceLT, Int.reduceLE, Int.reduceNeg, Int.reduceEq, Int.reducePow, reduceIte, reduceCtorEq, Int.reduceMul, Int.reduceAdd, Int.reduceSub, Int.reduceMod, Int.reduceDiv, Int.reduceTDiv, Int.reduceTMod, iter_s]
    exact ⟨_, rfl, _, rfl, rfl, rfl, rfl, rfl, rfl, rfl⟩
  · simp -implicitDefEqProofs only [c10b0, fg10, t1, t2, t8, t9, t10, hlo, k12, cl, tk, tz, gl, call_B, orF_some, flat, flatL, push_cast, Nat.reduceAdd, Nat.reduceMul, Nat.reduceSub, Nat.reduceLT, Nat.reduceLeDiff, Nat.reduceEqDiff, Nat.reducePow, Int.reduceToNat, Int.reduceLT, Int.reduceLE, Int.reduceNeg, Int.reduceEq, Int.reducePow, reduceIte, reduceCtorEq, Int.reduceMul, Int.reduceAdd, Int.reduceSub, Int.reduceMod, Int.reduceDiv, Int.reduceTDiv, Int.reduceTMod, iter_s]
    exact ⟨_, rfl, _, rfl, rfl, rfl, rfl, rfl, rfl, rfl⟩
theorem e10 (k : Nat) (L P : List Int) (hL : Lt L P) (S PK : LV) (hS : pkV L S) (hPK : pkV P PK) (most : Int) :
    evP (evF cm (k + 600)) 10 [S, PK, .i most] = some (.tup [slv (res L P most).out, .b (decide (liv (res L P most).L = []))]) := by
  rw [evP_fun (m := c10) rfl _ _ rfl]
  by_cases hL0 : L = []
  · subst hL0
    have hres : res [] P most = m0 [] P := rfl
    rw [hres]
    have k12 := fun k => e12 k [] (.im [] 0 true) (slI_im [] true) (by simp)
    have hz : liv [] = [] := rfl
    rw [hz] at k12
    have g1 : ¬ (0 : Int) < 0 := by omega
    have hs : S = .nils ∨ S = .im [] 0 false := by
      rcases hS with ⟨_, h⟩ | h
      · exact .inl h
      · exact .inr h
    rcases hs with rfl | rfl
    · simp -implicitDefEqProofs only [c10, c10b0, k12, g1, push_cast, Nat.reduceAdd, Nat.reduceMul, Nat.reduceSub, Nat.reduceLT, Nat.reduceLeDiff, Nat.reduceEqDiff, Nat.reducePow, Int.reduceToNat, Int.reduceLT, Int.reduceLE, Int.reduceNeg, Int.reduceEq, Int.reducePow, reduceIte, reduceCtorEq, Int.reduceMul, Int.reduceAdd, Int.reduceSub, Int.reduceMod, Int.reduceDiv, Int.reduceTDiv, Int.reduceTMod, iter_s]
      rfl
    · simp -implicitDefEqProofs only [c10, c10b0, k12, g1, push_cast, Nat.reduceAdd, Nat.reduceMul, Nat.reduceSub, Nat.reduceLT, Nat.reduceLeDiff, Nat.reduceEqDiff, Nat.reducePow, Int.reduceToNat, Int.reduceLT, Int.reduceLE, Int.reduceNeg, Int.reduceEq, Int.reducePow, reduceIte, reduceCtorEq, Int.reduceMul, Int.reduceAdd, Int.reduceSub, Int.reduceMod, Int.reduceDiv, Int.reduceTDiv, Int.reduceTMod, iter_s]
      rfl
  · obtain ⟨x, l, hxl⟩ : ∃ x l, L = x :: l := by
      cases L with
      | nil => exact absurd rfl hL0
      | cons x l => exact ⟨x, l, rfl⟩
    have hS' : S = .im (L.map LV.i) L.length false := by
      rcases hS with ⟨h, _⟩ | h
      · exact absurd h hL0
      · exact h
    subst hS'
    have key : ∀ s I, iter (evCode (evF cm (k + 599)) (k + 599) 0 c10b0) (cleanN fg10) (k + 599) s = I → S10 L.length PK most (m0 L P) s → ∃ s', I = some (.exit 0, s') ∧ S10 L.length PK most (res L P most) s' := by
      intro s I hI hs
      have hmu := hL.mu
      obtain ⟨s', h1, h2⟩ := iter_mch (S := S10 L.length PK most) (R := S10 L.length PK most) (inv := Inv10 L.length (mu L) P) (most := most) (e := 0) (fun m h hd => inv10_next h hd)
        (fun m s hi hd hs => step10 (k + 599) (by omega) L.length (mu L) hL.len hL.mu P PK hPK most m s hi hd hs)
        (fun m s hi hd hs => last10 (k + 599) (by omega) L.length hL.len P PK hPK most m s hi.1.1 hd hs) (mu L) (m0 L P) s (k + 599) rfl (by omega)
        ⟨⟨rfl, fun i => by have := hL.le i; simp only [m0]; omega, hL.P, ⟨by simp [m0], by simp only [m0]; omega⟩, by simp [m0]⟩, by simp [m0], hL.le⟩ hs
      exact ⟨s', hI.symm.trans h1, h2⟩
    have hat : (L.map LV.i).all atomB = true := by
      clear hS hxl key hL0 hL
      induction L with
      | nil => rfl
      | cons x D ih => exact ih
    have hlen : (L.map LV.i).length = L.length := by simp
    have hlz : ¬ L.length = 0 := by rw [hxl]; simp
    have hb1 : L.length ≤ 9223372036854775807 := by have := hL.len; omega
    have hb2 : L.length * 8 ≤ 140737488355328 := by have := hL.len; omega
    simp -implicitDefEqProofs only [c10, hat, hlen, hlz, hb1, hb2, push_cast, Nat.reduceAdd, Nat.reduceMul, Nat.reduceSub, Nat.reduceLT, Nat.reduceLeDiff, Nat.reduceEqDiff, Nat.reducePow, Int.reduceToNat, Int.reduceLT, Int.reduceLE, Int.reduceNeg, Int.reduceEq, Int.reducePow, reduceIte, reduceCtorEq, Int.reduceMul, Int.reduceAdd, Int.reduceSub, Int.reduceMod, Int.reduceDiv, Int.reduceTDiv, Int.reduceTMod]
    generalize hI : iter _ _ _ _ = I
    obtain ⟨s', hI2, T, rfl, ht, t1, t2, t8, t9, t10⟩ := key _ _ hI ⟨_, rfl, rfl, rfl, rfl, rfl, rfl, rfl⟩
    subst hI2
    clear hI
    have hrl : (res L P most).L.length = L.length := (res_cnts L P most).1
    have hSl := slI_im (res L P most).L false
    rw [hrl] at hSl
    have k12 := fun k => e12 k (res L P most).L _ hSl (by rw [hrl]; exact hL.len)
    have cl := closedL_ints (res L P most).L
    have tk : List.take L.length ((res L P most).L.map LV.i) = (res L P most).L.map LV.i := List.take_of_length_le (by simp [hrl])
    have tz : L.length ≤ ((res L P most).L.map LV.i).length := by simp [hrl]
    have hfr : frz (⟨0, (res L P most).L.map LV.i⟩ :: tailS (res L P most).out) (outS 1 (res L P most).out) = slv (res L P most).out := by
      cases ho : (res L P most).out with
      | nil => rfl
      | cons y o =>
        simp only [tailS, outS, frz, slv]
        simp [rowOf]
        exact List.take_of_length_le (by simp)
    have hcl := (slv_slI (res L P most).out).cl
    have hd : decide (((liv (res L P most).L).length : Int) = 0) = decide (liv (res L P most).L = []) := by
      rw [decide_eq_decide, ← List.length_eq_zero_iff]; omega
    rw [tl69 ht]
    simp -implicitDefEqProofs only [t1, t2, t8, t9, t10, k12, cl, tk, tz, hfr, hcl, hd, call_B, orF_some, flat, flatL, push_cast, Nat.reduceAdd, Nat.reduceMul, Nat.reduceSub, Nat.reduceLT, Nat.reduceLeDiff, Nat.reduceEqDiff, Nat.reducePow, Int.reduceToNat, Int.reduceLT, Int.reduceLE, Int.reduceNeg, Int.reduceEq, Int.reducePow, reduceIte, reduceCtorEq, Int.reduceMul, Int.reduceAdd, Int.reduceSub, Int.reduceMod, Int.reduceDiv, Int.reduceTDiv, Int.reduceTMod]
end Go.Proofs.Ytbmfmcimcdajcaa
