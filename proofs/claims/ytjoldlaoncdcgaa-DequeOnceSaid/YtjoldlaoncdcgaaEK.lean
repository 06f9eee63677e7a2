/- However the steps of an owner and of thieves come, each number that was pushed is got, once (DequeOnce), as the evaluator answers. -/
import Derived.Test.YtjoldlaoncdcgaaEJ
set_option linter.unusedSimpArgs false
set_option linter.unusedVariables false
set_option maxRecDepth 100000
set_option maxHeartbeats 16000000
namespace Go.Proofs.Ytjoldlaoncdcgaa
open Go
def th0 : TH := ⟨none, 0, 0, false⟩
def G0 (n c : Nat) : GM := ⟨AM.new n (c + 2) 0 0, n, fun _ => th0, [], [], []⟩
theorem pi0 (push : List Bool) (n c : Nat) (hc : 0 < c) : PI push c (G0 n c) 0 [] :=
  ⟨rfl, Nat.zero_le _, hc, fun i x e => by simp at e, fun o e => by simp [G0, th0] at e, fun _ => rfl, fun t h1 h2 o e => by simp [G0, th0] at e, List.Perm.refl _, List.Pairwise.nil, fun y hy => by simp [G0] at hy, fun y hy => by simp [G0] at hy, List.nodup_nil, Nat.zero_le _, Nat.zero_le _⟩
theorem ax0 (push : List Bool) (n c : Nat) : AX push c n 0 (G0 n c) := ⟨rfl, rfl, rfl, Int.le_refl _, Nat.le_refl _, Nat.le_refl _, Nat.le_refl _, Nat.zero_le _, fun _ _ => Nat.zero_le _⟩
theorem repC_cl (a b d e : LV) (n : Nat) : repC [a, b, d, e] n = cl (n * 4) fun j => if j % 4 = 0 then a else if j % 4 = 1 then b else if j % 4 = 2 then d else e := by
  refine List.ext_getElem? fun j => ?_
  induction n generalizing j with
  | zero => simp [repC, cl]
  | succ n ih =>
    simp only [repC]
    match j with
    | 0 => rw [cl_get (by omega)]; rfl
    | 1 => rw [cl_get (by omega)]; rfl
    | 2 => rw [cl_get (by omega)]; rfl
    | 3 => rw [cl_get (by omega)]; rfl
    | j + 4 =>
      show (repC [a, b, d, e] n)[j]? = _
      rw [ih]
      by_cases h : j < n * 4
      · rw [cl_get h, cl_get (by omega)]
        simp only [Nat.add_mod_right]
      · rw [List.getElem?_eq_none (by rw [cl_length]; omega), List.getElem?_eq_none (by rw [cl_length]; omega)]
def gr0 (m : Nat) : GR → Nat
  | .gm => m + 1
  | .ls => m
  | _ => 0
def zc (j : Nat) : LV := if j % 4 = 0 then .v (.pointer none) else if j % 4 = 1 then .i 0 else if j % 4 = 2 then .i 0 else .b false
theorem run0 {S1 S2 : LV} {th : Int} {push : List Bool} {c n : Nat} {g1 : List Row} {row : Tg → Nat} (H : MemAt g1 (AM.new n (c + 2) 0 0) row) (hc : 0 < c) (hp : push.length ≤ 40) :
    RunSt S1 S2 th push c n (g1.length + 1) 0 300 (g1 ++ [⟨0, cl (n * 4) zc⟩, ⟨0, [S1, .i c, .i th, S2, .p (row .mem) 0 0, .i 0, .i c, .sl g1.length 0 0 n 4 n, .nils, .nils, .nils, .b false]⟩]) := by
  refine ⟨row, gr0 g1.length, G0 n c, 0, [], ⟨H.app _, ⟨fun τ hτ => ?_, fun τ τ' h1 h2 e => ?_⟩, fun τ hτ hh => ?_⟩, pi0 push n c hc, ax0 push n c, rfl, ?_⟩
  · cases τ with
    | gm =>
      show (g1 ++ _)[g1.length + 1]? = _
      rw [List.getElem?_append_right (by omega), Nat.add_sub_cancel_left]; rfl
    | ls =>
      show (g1 ++ _)[g1.length]? = _
      rw [List.getElem?_append_right (by omega), Nat.sub_self]
      simp only [contR]
      refine congrArg some (congrArg (Row.mk 0) (cl4_congr fun t ht => ?_))
      rw [qc0, qc1, qc2, qc3]
      refine ⟨?_, ?_, ?_, ?_⟩
      · unfold zc; rw [if_pos (by omega)]; rfl
      · unfold zc; rw [if_neg (by omega), if_pos (by omega)]; rfl
      · unfold zc; rw [if_neg (by omega), if_neg (by omega), if_pos (by omega)]; rfl
      · unfold zc; rw [if_neg (by omega), if_neg (by omega), if_neg (by omega)]; rfl
    | op t => exact absurd rfl hτ.2
    | _ => exact absurd rfl hτ
  · cases τ with
    | gm => cases τ' with
      | gm => rfl
      | ls => simp [gr0] at e
      | op t => exact absurd rfl h2.2
      | _ => exact absurd rfl h2
    | ls => cases τ' with
      | gm => simp [gr0] at e
      | ls => rfl
      | op t => exact absurd rfl h2.2
      | _ => exact absurd rfl h2
    | op t => exact absurd rfl h1.2
    | _ => exact absurd rfl h1
  · have := H.own hh
    cases τ with
    | gm => simp only [gr0] at this; omega
    | ls => simp only [gr0] at this; omega
    | op t => exact absurd rfl hτ.2
    | _ => exact absurd rfl hτ
  · simp [remT, G0, th0]; omega
theorem e4 (k : Nat) (push : List Bool) (l : List Int) (S1 S2 : LV) (hS1 : SlB push S1) (hS2 : SlU l S2) (sl th : Int) : ∃ h', evF cm (k + 30000) 4 [.agg [S1, .i sl, .i th, S2]] [] 0 = some (.b true, h') := by
  have ea : ∀ k, evP (evF cm (k + 200)) 8 [] = some (.b true) := e8
  rw [evH_fun (m := c4) rfl _ _ _ _ rfl]
  have s1 := hS1.len
  have s2 := hS2.len
  have a1 := hS1.atm
  have a2 := hS2.atm
  have c1 := hS1.cells
  have c2 := hS2.cells
  by_cases h1 : (40 : Int) < (push.length : Int)
  · simp -implicitDefEqProofs only [c4, s1, s2, a1, a2, c1, c2, h1, ea, push_cast, Nat.reduceAdd, Nat.reduceMul, Nat.reduceSub, Nat.reduceLT, Nat.reduceLeDiff, Nat.reduceEqDiff, Nat.reducePow, Int.reduceToNat, Int.reduceLT, Int.reduceLE, Int.reduceNeg, Int.reduceEq, Int.reducePow, reduceIte, reduceCtorEq, Int.reduceMul, Int.reduceAdd, Int.reduceSub, Int.reduceMod, Int.reduceDiv, Int.reduceTDiv, Int.reduceTMod]
    exact ⟨_, rfl⟩
  by_cases h2 : sl < 1
  · simp -implicitDefEqProofs only [c4, s1, s2, a1, a2, c1, c2, h1, h2, ea, push_cast, Nat.reduceAdd, Nat.reduceMul, Nat.reduceSub, Nat.reduceLT, Nat.reduceLeDiff, Nat.reduceEqDiff, Nat.reducePow, Int.reduceToNat, Int.reduceLT, Int.reduceLE, Int.reduceNeg, Int.reduceEq, Int.reducePow, reduceIte, reduceCtorEq, Int.reduceMul, Int.reduceAdd, Int.reduceSub, Int.reduceMod, Int.reduceDiv, Int.reduceTDiv, Int.reduceTMod]
    exact ⟨_, rfl⟩
  by_cases h3 : 50 < sl
  · simp -implicitDefEqProofs only [c4, s1, s2, a1, a2, c1, c2, h1, h2, h3, ea, push_cast, Nat.reduceAdd, Nat.reduceMul, Nat.reduceSub, Nat.reduceLT, Nat.reduceLeDiff, Nat.reduceEqDiff, Nat.reducePow, Int.reduceToNat, Int.reduceLT, Int.reduceLE, Int.reduceNeg, Int.reduceEq, Int.reducePow, reduceIte, reduceCtorEq, Int.reduceMul, Int.reduceAdd, Int.reduceSub, Int.reduceMod, Int.reduceDiv, Int.reduceTDiv, Int.reduceTMod]
    exact ⟨_, rfl⟩
  by_cases h4 : th < 0
  · simp -implicitDefEqProofs only [c4, s1, s2, a1, a2, c1, c2, h1, h2, h3, h4, ea, push_cast, Nat.reduceAdd, Nat.reduceMul, Nat.reduceSub, Nat.reduceLT, Nat.reduceLeDiff, Nat.reduceEqDiff, Nat.reducePow, Int.reduceToNat, Int.reduceLT, Int.reduceLE, Int.reduceNeg, Int.reduceEq, Int.reducePow, reduceIte, reduceCtorEq, Int.reduceMul, Int.reduceAdd, Int.reduceSub, Int.reduceMod, Int.reduceDiv, Int.reduceTDiv, Int.reduceTMod]
    exact ⟨_, rfl⟩
  by_cases h5 : 6 < th
  · simp -implicitDefEqProofs only [c4, s1, s2, a1, a2, c1, c2, h1, h2, h3, h4, h5, ea, push_cast, Nat.reduceAdd, Nat.reduceMul, Nat.reduceSub, Nat.reduceLT, Nat.reduceLeDiff, Nat.reduceEqDiff, Nat.reducePow, Int.reduceToNat, Int.reduceLT, Int.reduceLE, Int.reduceNeg, Int.reduceEq, Int.reducePow, reduceIte, reduceCtorEq, Int.reduceMul, Int.reduceAdd, Int.reduceSub, Int.reduceMod, Int.reduceDiv, Int.reduceTDiv, Int.reduceTMod]
    exact ⟨_, rfl⟩
  by_cases h6 : (400 : Int) < (l.length : Int)
  · simp -implicitDefEqProofs only [c4, s1, s2, a1, a2, c1, c2, h1, h2, h3, h4, h5, h6, ea, push_cast, Nat.reduceAdd, Nat.reduceMul, Nat.reduceSub, Nat.reduceLT, Nat.reduceLeDiff, Nat.reduceEqDiff, Nat.reducePow, Int.reduceToNat, Int.reduceLT, Int.reduceLE, Int.reduceNeg, Int.reduceEq, Int.reducePow, reduceIte, reduceCtorEq, Int.reduceMul, Int.reduceAdd, Int.reduceSub, Int.reduceMod, Int.reduceDiv, Int.reduceTDiv, Int.reduceTMod]
    exact ⟨_, rfl⟩
  obtain ⟨c, rfl⟩ : ∃ c : Nat, sl = c := ⟨sl.toNat, by omega⟩
  obtain ⟨n, hn⟩ : ∃ n : Nat, (n : Int) = th + 1 := ⟨(th + 1).toNat, by omega⟩
  have u1 : IntKind.i64.wrap (th + 1) = (n : Int) := by rw [hn]; exact w64 _ (by omega) (by omega)
  obtain ⟨na, hna⟩ : ∃ na : Nat, na = c + 2 := ⟨_, rfl⟩
  have en : ∀ k, evP (evF cm (k + 1)) 7 [.i c] = some (.i na) := fun k => by rw [need_ok k c (by omega), show (c : Int) + 2 = (na : Int) by omega]
  obtain ⟨h0, e0, H0⟩ := new_iso (k + 29998) n na 0 0 (by omega) (by omega) (by omega) (by omega) (by omega) (by omega)
  have z0 : ((0 : Nat) : Int) = 0 := rfl
  rw [z0] at e0
  have e0' : evF cm (k + 29999) 6 [.i n, .i na, .i 0, .i 0] [] 0 = some (.tup [.p 3 0 0, .i 0], h0) := e0
  have e0p : evP (evF cm (k + 29999)) 6 [.i n, .i na, .i 0, .i 0] = none := by
    unfold evP; rw [e0']; rfl
  have H1 := mem_shift H0 [⟨0, [S1, .i c, .i th, S2]⟩]
  generalize hg : [(⟨0, [S1, .i c, .i th, S2]⟩ : Row)] ++ shR [(⟨0, [S1, .i c, .i th, S2]⟩ : Row)].length h0 = g1 at H1
  have hg' : (⟨0, [S1, .i c, .i th, S2]⟩ : Row) :: shR 1 h0 = g1 := hg
  have rg : rowOf g1 0 0 = some [S1, .i c, .i th, S2] := by rw [← hg']; rfl
  have gl : 0 < g1.length := by rw [← hg']; simp
  have rz : ∀ x, rowOf (g1 ++ x) 0 0 = some [S1, .i c, .i th, S2] := fun x => by rw [rowOf_app_lt gl]; exact rg
  have zz : repC [.v (.pointer none), .i 0, .i 0, .b false] n = cl (n * 4) zc := repC_cl (.v (.pointer none)) (.i 0) (.i 0) (.b false) n
  have nn1 : n ≤ 9223372036854775807 := by omega
  have nn2 : n * 32 ≤ 140737488355328 := by omega
  have nn3 : (n : Int) ≤ 9223372036854775807 := by omega
  have nn4 : (0 : Int) ≤ (n : Int) := by omega
  have ok1 : ∀ x a b, okRM1 [0, 1, 2, 3, 4, 5] x a b [(1, [0]), (2, []), (3, []), (4, [0]), (7, []), (8, []), (9, []), (10, [])] = true := fun x a b => by cases x <;> rfl
  have hl1 : ∀ x : Row, (g1 ++ [x]).length = g1.length + 1 := fun x => by simp
  obtain ⟨h', row, gr, G, e16, D⟩ := all_ok (K := k + 29998) (by omega) (by omega) (by omega) (by omega) (by omega) hS1 l hS2 (by omega) (run0 (S1 := S1) (S2 := S2) (th := th) (push := push) (hna ▸ H1) (by omega) (by omega))
  have e16' : evF cm (k + 29999) 16 [.p (g1.length + 1) 0 0] (g1 ++ [⟨0, cl (n * 4) zc⟩, ⟨0, [S1, .i c, .i th, S2, .p 4 0 0, .i 0, .i c, .sl g1.length 0 0 n 4 n, .nils, .nils, .nils, .b false]⟩]) 0 = some (.tup [], h') := e16
  have key1 : ∀ s I, iter (evCode (evF cm (k + 29999)) (k + 29999) 0 c4b1) (cleanN fgC1) (k + 29999) s = I → SC 6 h' (g1.length + 1) 0 s → ∃ s', I = some (.exit 0, s') ∧ SC 6 h' (g1.length + 1) G.pu.length s' := by
    intro s I hI hs
    have := D.pu
    obtain ⟨s', h1, h2⟩ := iter_count (fun i s hi hs => once_round (k + 29999) (by omega) D i s hi hs) (fun s hs => once_last (k + 29999) D s hs) G.pu.length 0 s (k + 29999) (by omega) (by omega) hs
    exact ⟨s', hI.symm.trans h1, h2⟩
  have key0 : ∀ s I, iter (evCode (evF cm (k + 29999)) (k + 29999) 0 c4b0) (cleanN fgC0) (k + 29999) s = I → SC 7 h' (g1.length + 1) 1 s → ∃ T, I = some (.exit 2, (T, h')) ∧ T.length = 133 := by
    intro s I hI hs
    have := D.st
    have := @iter_until (evCode (evF cm (k + 29999)) (k + 29999) 0 c4b0) (cleanN fgC0) (fun i s => i ≤ G.st.length - 1 ∧ SC 7 h' (g1.length + 1) (i + 1) s) (fun s' => ∃ T, s' = (T, h') ∧ T.length = 133) (fun _ => False) (G.st.length - 1) 2
      (fun i s hi hs => .inl (by obtain ⟨s', e, h⟩ := rise_round (k + 29999) D i s (by omega) hs.2; exact ⟨s', e, by omega, h⟩)) (fun s hs => rise_last (k + 29999) D (G.st.length - 1) s (by omega) hs.2) (G.st.length - 1) 0 s (k + 29999) (by omega) (by omega) ⟨by omega, hs⟩
    rcases this with ⟨s', h1, T, rfl, h2⟩ | ⟨_, _, hf⟩
    · exact ⟨T, hI.symm.trans h1, h2⟩
    · exact hf.elim
  have q1 := D.A.rgm
  unfold gmC at q1
  rw [D.gg] at q1
  have lp := outG_len (gr .pu) G.pu.length
  have lg := outG_len (gr .go) G.go.length
  have lpe : G.go.length = G.pu.length := D.perm.length_eq
  rw [lpe] at lg
  rw [lpe] at q1
  simp -implicitDefEqProofs only [c4, s1, s2, a1, a2, c1, c2, h1, h2, h3, h4, h5, h6, u1, en, e0', e0p, hg', rg, rz, zz, nn1, nn2, nn3, nn4, ea, ok1, app1_0, hl1, List.append_assoc, e16', q1, lp, lg, push_cast, Nat.reduceAdd, Nat.reduceMul, Nat.reduceSub, Nat.reduceLT, Nat.reduceLeDiff, Nat.reduceEqDiff, Nat.reducePow, Int.reduceToNat, Int.reduceLT, Int.reduceLE, Int.reduceNeg, Int.reduceEq, Int.reducePow, reduceIte, reduceCtorEq, Int.reduceMul, Int.reduceAdd, Int.reduceSub, Int.reduceMod, Int.reduceDiv, Int.reduceTDiv, Int.reduceTMod]
  generalize hI : iter _ _ _ _ = I
  obtain ⟨s', hI2, T1, rfl, hT1, t5, t6⟩ := key1 _ _ hI ⟨_, rfl, rfl, rfl, rfl⟩
  subst hI2
  clear hI
  rw [tl133 hT1]
  simp -implicitDefEqProofs only [t5, t6, push_cast, Nat.reduceAdd, Nat.reduceMul, Nat.reduceSub, Nat.reduceLT, Nat.reduceLeDiff, Nat.reduceEqDiff, Nat.reducePow, Int.reduceToNat, Int.reduceLT, Int.reduceLE, Int.reduceNeg, Int.reduceEq, Int.reducePow, reduceIte, reduceCtorEq, Int.reduceMul, Int.reduceAdd, Int.reduceSub, Int.reduceMod, Int.reduceDiv, Int.reduceTDiv, Int.reduceTMod]
  generalize hI : iter _ _ _ _ = I
  obtain ⟨T2, hI2, hT2⟩ := key0 _ _ hI ⟨_, rfl, rfl, rfl, rfl⟩
  subst hI2
  rw [tl133 hT2]
  simp -implicitDefEqProofs only [ea, push_cast, Nat.reduceAdd, Nat.reduceMul, Nat.reduceSub, Nat.reduceLT, Nat.reduceLeDiff, Nat.reduceEqDiff, Nat.reducePow, Int.reduceToNat, Int.reduceLT, Int.reduceLE, Int.reduceNeg, Int.reduceEq, Int.reducePow, reduceIte, reduceCtorEq, Int.reduceMul, Int.reduceAdd, Int.reduceSub, Int.reduceMod, Int.reduceDiv, Int.reduceTDiv, Int.reduceTMod]
  exact ⟨_, rfl⟩
theorem slB_of {cs : List LV} (h : Is (.sl .b) cs) : ∃ l S, cs = [S] ∧ SlB l S := by
  rcases h with rfl | ⟨L, rfl, hlen, hL⟩
  · exact ⟨[], .nils, rfl, rfl, rfl, rfl, rfl, fun i hi => by simp at hi⟩
  · clear hlen
    have : ∃ l : List Bool, L.flatten = l.map LV.b ∧ L.length = l.length := by
      induction L with
      | nil => exact ⟨[], rfl, rfl⟩
      | cons x L ih =>
        obtain ⟨l, h1, h2⟩ := ih (fun y hy => hL y (by simp [hy]))
        obtain ⟨b, hb⟩ := hL x (by simp)
        exact ⟨b :: l, by simp [hb, h1], by simp [h2]⟩
    obtain ⟨l, h1, h2⟩ := this
    refine ⟨l, .im (l.map LV.b) l.length false, by rw [h1, h2], rfl, rfl, rfl, ?_, fun i hi => ?_⟩
    · show closedL _ = true
      clear h1 h2
      induction l with
      | nil => rfl
      | cons x l ih => simp [closedL, closed, ih]
    · rw [ixsE_im, if_pos ⟨by omega, by omega⟩, Int.toNat_natCast, Nat.mul_one]
theorem slU_of {cs : List LV} (h : Is (.sl (.i .u8)) cs) : ∃ l S, cs = [S] ∧ SlU l S := by
  rcases h with rfl | ⟨L, rfl, hlen, hL⟩
  · exact ⟨[], .nils, rfl, rfl, rfl, rfl, rfl, fun i hi => by simp at hi, fun x hx => by simp at hx⟩
  · clear hlen
    have : ∃ l : List Int, L.flatten = l.map (fun x => LV.v (.int .u8 x)) ∧ L.length = l.length ∧ ∀ x ∈ l, 0 ≤ x ∧ x ≤ 255 := by
      induction L with
      | nil => exact ⟨[], rfl, rfl, fun x hx => by simp at hx⟩
      | cons x L ih =>
        obtain ⟨l, h1, h2, h3⟩ := ih (fun y hy => hL y (by simp [hy]))
        obtain ⟨n, hn, hn1, hn2⟩ := hL x (by simp)
        refine ⟨n :: l, by simp [hn, h1], by simp [h2], fun m hm => ?_⟩
        rcases List.mem_cons.1 hm with rfl | hm
        · exact ⟨hn1, hn2⟩
        · exact h3 m hm
    obtain ⟨l, h1, h2, h3⟩ := this
    refine ⟨l, .im (l.map fun x => LV.v (.int .u8 x)) l.length false, by rw [h1, h2], rfl, rfl, rfl, ?_, fun i hi => ?_, h3⟩
    · show closedL _ = true
      clear h1 h2 h3
      induction l with
      | nil => rfl
      | cons x l ih => simp [closedL, closed, ih]
    · rw [ixsE_im, if_pos ⟨by omega, by omega⟩, Int.toNat_natCast, Nat.mul_one]
end Go.Proofs.Ytjoldlaoncdcgaa
