/- A memory's operations, as the evaluator answers: plain cells. -/
import Derived.Test.YtcmlnjkbdlakfaaMQ
set_option linter.unusedSimpArgs false
set_option linter.unusedVariables false
set_option maxRecDepth 100000
set_option maxHeartbeats 16000000
namespace Go.Proofs.Ytcmlnjkbdlakfaa
open Go
theorem tl139 {T : List LV} (h : T.length = 139) : T = [getT T 0, getT T 1, getT T 2, getT T 3, getT T 4, getT T 5, getT T 6, getT T 7, getT T 8, getT T 9, getT T 10, getT T 11, getT T 12, getT T 13, getT T 14, getT T 15, getT T 16, getT T 17, getT T 18, getT T 19, getT T 20, getT T 21, getT T 22, getT T 23, getT T 24, getT T 25, getT T 26, getT T 27, getT T 28, getT T 29, getT T 30, getT T 31, getT T 32, getT T 33, getT T 34, getT T 35, getT T 36, getT T 37, getT T 38, getT T 39, getT T 40, getT T 41, getT T 42, getT T 43, getT T 44, getT T 45, getT T 46, getT T 47, getT T 48, getT T 49, getT T 50, getT T 51, getT T 52, getT T 53, getT T 54, getT T 55, getT T 56, getT T 57, getT T 58, getT T 59, getT T 60, getT T 61, getT T 62, getT T 63, getT T 64, getT T 65, getT T 66, getT T 67, getT T 68, getT T 69, getT T 70, getT T 71, getT T 72, getT T 73, getT T 74, getT T 75, getT T 76, getT T 77, getT T 78, getT T 79, getT T 80, getT T 81, getT T 82, getT T 83, getT T 84, getT T 85, getT T 86, getT T 87, getT T 88, getT T 89, getT T 90, getT T 91, getT T 92, getT T 93, getT T 94, getT T 95, getT T 96, getT T 97, getT T 98, getT T 99, getT T 100, getT T 101, getT T 102, getT T 103, getT T 104, getT T 105, getT T 106, getT T 107, getT T 108, getT T 109, getT T 110, getT T 111, getT T 112, getT T 113, getT T 114, getT T 115, getT T 116, getT T 117, getT T 118, getT T 119, getT T 120, getT T 121, getT T 122, getT T 123, getT T 124, getT T 125, getT T 126, getT T 127, getT T 128, getT T 129, getT T 130, getT T 131, getT T 132, getT T 133, getT T 134, getT T 135, getT T 136, getT T 137, getT T 138] := tlT h
/-! ### a clash is told -/
def AM.tell (M : AM) (l : List (Int × Int × Int)) : AM := { M with cl := M.cl ++ l }
theorem tell_wf {M : AM} (h : M.WF) (l : List (Int × Int × Int)) : (M.tell l).WF := ⟨h.ops, h.clk, h.ak, h.lk⟩
theorem tell_nil (M : AM) : M.tell [] = M := by unfold AM.tell; rw [List.append_nil]
theorem outG_cells (e r0 i : Nat) : (outG e r0 i).cells = [outG e r0 i] := by cases i <;> rfl
theorem outG_atom (e r0 i : Nat) : atomB (outG e r0 i) = true := by cases i <;> rfl
theorem clash_app (h : List Row) (M : AM) (row : Tg → Nat) (H : MemAt h M row) (x y z : Int) (hc : M.cl.length < 1000000000) :
    ∃ h1 row', appE 0 h 3 24 [.i x, .i y, .i z] 1 (outG 3 (row .cls) M.cl.length) = some (outG 3 (row' .cls) (M.cl.length + 1), h1) ∧
      rowOf h1 (row .mem) 0 = rowOf h (row .mem) 0 ∧ (∀ τ, τ ≠ .cls → row' τ = row τ) ∧
      MemAt (h1.set (row .mem) ⟨0, [.sl (row .clks) (M.n - 1) 0 M.n 1 M.n, .sl (row .atoms) 0 0 M.na 2 M.na, .sl (row .plains) 0 0 M.np 2 M.np, .sl (row .locks) 0 0 M.nl 2 M.nl, outG 3 (row' .cls) (M.cl.length + 1), .i M.ops]⟩) (M.tell [(x, y, z)]) row' ∧
      Frm (own M row) (own (M.tell [(x, y, z)]) row') h (h1.set (row .mem) ⟨0, [.sl (row .clks) (M.n - 1) 0 M.n 1 M.n, .sl (row .atoms) 0 0 M.na 2 M.na, .sl (row .plains) 0 0 M.np 2 M.np, .sl (row .locks) 0 0 M.nl 2 M.nl, outG 3 (row' .cls) (M.cl.length + 1), .i M.ops]⟩) := by
  have hlen : (M.cl ++ [(x, y, z)]).length = M.cl.length + 1 := by simp
  cases hcl : M.cl with
  | nil =>
    refine ⟨h ++ [⟨0, [.i x, .i y, .i z]⟩], setC row .cls h.length, ?_, rowOf_app_lt H.lmem, fun τ hτ => setC_ne _ _ hτ, ?_, ?_⟩
    · rw [setC_eq]; simp [outG, appE]
    · have := ((H.hat.push .cls ⟨0, [.i x, .i y, .i z]⟩).put .mem (.inr trivial) ⟨0, [.sl (row .clks) (M.n - 1) 0 M.n 1 M.n, .sl (row .atoms) 0 0 M.na 2 M.na, .sl (row .plains) 0 0 M.np 2 M.np, .sl (row .locks) 0 0 M.nl 2 M.nl, outG 3 (setC row .cls h.length .cls) (0 + 1), .i M.ops]⟩)
      refine ⟨this.cast (row' := setC row .cls h.length) (live' := live (M.tell [(x, y, z)])) fun τ hτ => ⟨?_, rfl, ?_⟩, tell_wf H.wf _, H.n⟩
      · cases τ with
        | cls => exact .inl rfl
        | _ => exact .inr hτ
      · cases τ with
        | mem => rw [setC_eq]; simp only [cont, AM.tell, hcl]; rfl
        | cls => rw [setC_ne _ _ (by simp), setC_eq]; simp only [cont, AM.tell, hcl]; rfl
        | _ => rfl
    · refine (Frm.push (own' := own (M.tell [(x, y, z)]) (setC row .cls h.length)) _ (own_push fun τ hτ => ?_)).trans (Frm.put ⟨.mem, trivial, rfl⟩ (fun _ h => h) _)
      cases τ with
      | cls => exact .inl rfl
      | _ => exact .inr hτ
  | cons c l =>
    have hne : M.cl ≠ [] := by rw [hcl]; simp
    have hl0 : M.cl.length = l.length + 1 := by rw [hcl]; rfl
    have hr := H.rcls hne
    have hlt := H.hat.lt (τ := .cls) hne
    have hn : row .cls ≠ row .mem := H.hat.ne (τ := .cls) (τ' := .mem) hne trivial (by simp)
    rw [hl0, Nat.add_sub_cancel] at hr
    have hcc := clCells_len M.cl
    rw [hl0] at hcc
    refine ⟨h.set (row .cls) ⟨l.length + 1, clCells M.cl ++ [.i x, .i y, .i z]⟩, row, ?_, rowOf_set_ne hn, fun _ _ => rfl, ?_, ?_⟩
    · have hcc' : (clCells (c :: l)).length = (l.length + 1) * 3 := by rw [← hcl]; exact hcc
      rw [hcl] at hr
      simp only [List.length_cons, outG, appE, hr, Nat.not_lt_zero, if_false]
      rw [if_neg (by omega), if_pos ⟨by omega, trivial, trivial, hcc', by omega, by omega⟩, hcl]
    · have := ((H.hat.put .cls hne ⟨l.length + 1, clCells M.cl ++ [.i x, .i y, .i z]⟩).put .mem trivial ⟨0, [.sl (row .clks) (M.n - 1) 0 M.n 1 M.n, .sl (row .atoms) 0 0 M.na 2 M.na, .sl (row .plains) 0 0 M.np 2 M.np, .sl (row .locks) 0 0 M.nl 2 M.nl, outG 3 (row .cls) ((c :: l).length + 1), .i M.ops]⟩)
      refine ⟨this.cast fun τ hτ => ⟨?_, rfl, ?_⟩, tell_wf H.wf _, H.n⟩
      · cases τ with
        | cls => exact hne
        | _ => exact hτ
      · cases τ with
        | mem => rw [setC_eq]; simp only [cont, AM.tell, hcl, List.length_append, List.length_singleton]
        | cls => rw [setC_ne _ _ (by simp), setC_eq]; simp only [cont, AM.tell, hlen, hl0, Nat.add_sub_cancel, clCells_app]; rfl
        | _ => rfl
    · refine (Frm.put (own' := own M row) ⟨.cls, hne, rfl⟩ (fun _ h => h) _).trans (Frm.put ⟨.mem, trivial, rfl⟩ (fun k hk => ?_) _)
      obtain ⟨τ, h1, h2⟩ := hk
      refine ⟨τ, ?_, h2⟩
      cases τ with
      | cls => exact hne
      | _ => exact h1
/-! ### the clashes of an access -/
def fgA : List Nat := [105, 104, 103, 102, 101, 100, 99, 98, 97, 96, 95, 94, 93, 92, 91, 90, 89, 88, 87, 86, 85, 84, 83, 82, 81, 80, 79, 78, 77, 76, 75, 74, 73, 72, 71, 70, 69, 68, 67, 66, 65, 64, 63, 62, 61, 60]
def clI (p t : Nat) (r w k : Nat → Int) (wr : Bool) (i : Nat) : List (Int × Int × Int) := clashes i p t r w k wr
theorem clI_succ (p t : Nat) (r w k : Nat → Int) (wr : Bool) (i : Nat) : clashes (i + 1) p t r w k wr = clashes i p t r w k wr ++ (if clashB r w k t wr i then [((p : Int), (i : Int), (t : Int))] else []) := by
  unfold clashes
  rw [List.range_succ, List.filter_append, List.map_append]
  congr 1
  by_cases h : clashB r w k t wr i = true <;> simp [h]
theorem clI_len (p t : Nat) (r w k : Nat → Int) (wr : Bool) (i : Nat) : (clashes i p t r w k wr).length ≤ i := by
  unfold clashes
  rw [List.length_map]
  have := List.length_filter_le (clashB r w k t wr) (List.range i)
  simpa using this
def SA (h0 : List Row) (M : AM) (row : Tg → Nat) (t p : Nat) (wr : Bool) (i : Nat) (s : St) : Prop := ∃ T h row', s = (T, h) ∧ MemAt h (M.tell (clashes i p t (M.rw p).1 (M.rw p).2 (M.clk t) wr)) row' ∧ (∀ τ, τ ≠ .cls → row' τ = row τ) ∧ Frm (own M row) (own (M.tell (clashes i p t (M.rw p).1 (M.rw p).2 (M.clk t) wr)) row') h0 h ∧
  T.length = 139 ∧ getT T 0 = .p (row .mem) 0 0 ∧ getT T 1 = .i t ∧ getT T 2 = .i p ∧ getT T 3 = .b wr ∧ getT T 10 = .p (row .plains) 0 (p * 2) ∧ getT T 57 = .sl (row (.clk t)) 0 0 M.n 1 M.n ∧ getT T 58 = .i M.n ∧ getT T 59 = .i i
theorem access_round (K : Nat) (h0 : List Row) (M : AM) (row : Tg → Nat) (t p : Nat) (wr : Bool) (ht : t < M.n) (hp : p < M.np) (hpl : M.pl p = some (M.rw p)) (hn : M.n ≤ 80) (hcl : M.cl.length < 900000000) (i : Nat) (s : St) (hi : i < M.n) (hs : SA h0 M row t p wr i s) :
    ∃ s', evCode (evF cm K) K 0 c34b0 (cleanN fgA s) = some (.nrm, s') ∧ SA h0 M row t p wr (i + 1) s' := by
  obtain ⟨T, h, row', rfl, H, hrow, F, hT, t0, t1, t2, t3, t10, t57, t58, t59⟩ := hs
  rw [tl139 hT]
  have hli := clI_len p t (M.rw p).1 (M.rw p).2 (M.clk t) wr i
  have hsu := clI_succ p t (M.rw p).1 (M.rw p).2 (M.clk t) wr i
  generalize hci : clashes i p t (M.rw p).1 (M.rw p).2 (M.clk t) wr = ci at *
  have g1 : (i : Int) < (M.n : Int) := by omega
  have g2 : (0 : Int) ≤ (i : Int) := by omega
  have w1 : IntKind.i64.wrap ((i : Int) + 1) = ((i + 1 : Nat) : Int) := by rw [w64 _ (by omega) (by omega)]; rfl
  have k1 : rowOf h (row .mem) 0 = some [.sl (row .clks) (M.n - 1) 0 M.n 1 M.n, .sl (row .atoms) 0 0 M.na 2 M.na, .sl (row .plains) 0 0 M.np 2 M.np, .sl (row .locks) 0 0 M.nl 2 M.nl, outG 3 (row' .cls) (M.cl ++ ci).length, .i M.ops] := by
    have := H.rmem
    rw [hrow _ (by simp), hrow _ (by simp), hrow _ (by simp), hrow _ (by simp), hrow _ (by simp)] at this
    exact this
  have k2 : rowOf h (row (.clk t)) 0 = some (vec M.n (M.clk t)) := by
    have := H.rclk (t := t) ht
    rw [hrow _ (by simp)] at this
    exact this
  have k3 : rowOf h (row .plains) 0 = some (prs M.np (fun p => kn M.n (row (.rd p)) (M.pl p)) (fun p => kn M.n (row (.wr p)) (M.pl p))) := by
    have := H.rplains
    rw [hrow _ (by simp)] at this
    rw [this]
    refine congrArg some (prs_congr fun j hj => ?_)
    rw [hrow _ (by simp), hrow _ (by simp)]
    exact ⟨rfl, rfl⟩
  have hne : M.pl p ≠ none := by rw [hpl]; simp
  have k4 : rowOf h (row (.rd p)) 0 = some (vec M.n (M.rw p).1) := by
    have := H.rrd (p := p) hp hne
    rw [hrow _ (by simp)] at this
    exact this
  have k5 : rowOf h (row (.wr p)) 0 = some (vec M.n (M.rw p).2) := by
    have := H.rwr (p := p) hp hne
    rw [hrow _ (by simp)] at this
    exact this
  have p1 : (prs M.np (fun p => kn M.n (row (.rd p)) (M.pl p)) (fun p => kn M.n (row (.wr p)) (M.pl p)))[p * 2]? = some (.sl (row (.rd p)) 0 0 M.n 1 M.n) := by rw [prs_fst hp, hpl, kn_some]
  have p2 : (prs M.np (fun p => kn M.n (row (.rd p)) (M.pl p)) (fun p => kn M.n (row (.wr p)) (M.pl p)))[p * 2 + 1]? = some (.sl (row (.wr p)) 0 0 M.n 1 M.n) := by rw [prs_snd hp, hpl, kn_some]
  have v1 := vec_get (f := M.clk t) hi
  have v2 := vec_get (f := (M.rw p).1) hi
  have v3 := vec_get (f := (M.rw p).2) hi
  obtain ⟨h1, row'', ha, hb, hc, H2, F2⟩ := clash_app h _ row' H p i t (by simp only [AM.tell, List.length_append]; omega)
  have hrow2 : ∀ τ, τ ≠ .cls → row'' τ = row τ := fun τ hτ => (hc τ hτ).trans (hrow τ hτ)
  rw [hrow _ (by simp)] at hb
  rw [hrow _ (by simp), hrow _ (by simp), hrow _ (by simp), hrow _ (by simp), hrow _ (by simp)] at H2 F2
  have hA : appE 0 h 3 24 [.i p, .i i, .i t] 1 (outG 3 (row' .cls) (M.cl ++ ci).length) = some (outG 3 (row'' .cls) ((M.cl ++ ci).length + 1), h1) := ha
  have hA2 : appE 0 h 3 24 [.i p, .i i, .i t] 1 (outG 3 (row' .cls) (M.cl ++ ci).length) = some (.sl (row'' .cls) (M.cl ++ ci).length 0 ((M.cl ++ ci).length + 1) 3 ((M.cl ++ ci).length + 1), h1) := hA
  have H2' : MemAt (h1.set (row .mem) ⟨0, [.sl (row .clks) (M.n - 1) 0 M.n 1 M.n, .sl (row .atoms) 0 0 M.na 2 M.na, .sl (row .plains) 0 0 M.np 2 M.np, .sl (row .locks) 0 0 M.nl 2 M.nl, outG 3 (row'' .cls) ((M.cl ++ ci).length + 1), .i M.ops]⟩) (M.tell (ci ++ [((p : Int), (i : Int), (t : Int))])) row'' := by
    have e : M.tell (ci ++ [((p : Int), (i : Int), (t : Int))]) = (M.tell ci).tell [((p : Int), (i : Int), (t : Int))] := by simp [AM.tell]
    rw [e]; exact H2
  have F2' : Frm (own M row) (own (M.tell (ci ++ [((p : Int), (i : Int), (t : Int))])) row'') h0 (h1.set (row .mem) ⟨0, [.sl (row .clks) (M.n - 1) 0 M.n 1 M.n, .sl (row .atoms) 0 0 M.na 2 M.na, .sl (row .plains) 0 0 M.np 2 M.np, .sl (row .locks) 0 0 M.nl 2 M.nl, outG 3 (row'' .cls) ((M.cl ++ ci).length + 1), .i M.ops]⟩) := by
    have e : M.tell (ci ++ [((p : Int), (i : Int), (t : Int))]) = (M.tell ci).tell [((p : Int), (i : Int), (t : Int))] := by simp [AM.tell]
    rw [e]; exact F.trans F2
  clear H2 F2 ha
  by_cases hit : i = t
  · have hb0 : clashB (M.rw p).1 (M.rw p).2 (M.clk t) t wr i = false := by simp [clashB, hit]
    rw [hb0, if_neg (by simp), List.append_nil] at hsu
    subst hit
    simp -implicitDefEqProofs only [c34b0, fgA, t0, t1, t2, t3, t10, t57, t58, t59, k1, k2, k3, k4, k5, p1, p2, v1, v2, v3, g1, g2, w1, eq_self, push_cast, Nat.reduceAdd, Nat.reduceMul, Nat.reduceSub, Nat.reduceLT, Nat.reduceLeDiff, Nat.reduceEqDiff, Nat.reducePow, Int.reduceToNat, Int.reduceLT, Int.reduceLE, Int.reduceNeg, Int.reduceEq, Int.reducePow, reduceIte, reduceCtorEq, Int.reduceMul, Int.reduceAdd, Int.reduceSub, Int.reduceMod, Int.reduceDiv, Int.reduceTDiv, Int.reduceTMod, iter_s]
    exact ⟨_, rfl, _, h, row', rfl, by rw [hsu]; exact H, hrow, by rw [hsu]; exact F, rfl, rfl, rfl, rfl, rfl, rfl, rfl, rfl, rfl⟩
  · have hit' : ¬ (i : Int) = (t : Int) := by omega
    by_cases hA' : M.clk t i < (M.rw p).2 i
    · have hb0 : clashB (M.rw p).1 (M.rw p).2 (M.clk t) t wr i = true := by simp [clashB, hit, hA']
      rw [hb0, if_pos rfl] at hsu
      simp -implicitDefEqProofs only [c34b0, fgA, t0, t1, t2, t3, t10, t57, t58, t59, k1, k2, k3, k4, k5, p1, p2, v1, v2, v3, g1, g2, w1, hit', hA', hA2, hb, push_cast, Nat.reduceAdd, Nat.reduceMul, Nat.reduceSub, Nat.reduceLT, Nat.reduceLeDiff, Nat.reduceEqDiff, Nat.reducePow, Int.reduceToNat, Int.reduceLT, Int.reduceLE, Int.reduceNeg, Int.reduceEq, Int.reducePow, reduceIte, reduceCtorEq, Int.reduceMul, Int.reduceAdd, Int.reduceSub, Int.reduceMod, Int.reduceDiv, Int.reduceTDiv, Int.reduceTMod, iter_s]
      exact ⟨_, rfl, _, _, row'', rfl, by rw [hsu]; exact H2', hrow2, by rw [hsu]; exact F2', rfl, rfl, rfl, rfl, rfl, rfl, rfl, rfl, rfl⟩
    · cases wr with
      | false =>
        have hb0 : clashB (M.rw p).1 (M.rw p).2 (M.clk t) t false i = false := by simp [clashB, hit, hA']
        rw [hb0, if_neg (by simp), List.append_nil] at hsu
        simp -implicitDefEqProofs only [c34b0, fgA, t0, t1, t2, t3, t10, t57, t58, t59, k1, k2, k3, k4, k5, p1, p2, v1, v2, v3, g1, g2, w1, hit', hA', push_cast, Nat.reduceAdd, Nat.reduceMul, Nat.reduceSub, Nat.reduceLT, Nat.reduceLeDiff, Nat.reduceEqDiff, Nat.reducePow, Int.reduceToNat, Int.reduceLT, Int.reduceLE, Int.reduceNeg, Int.reduceEq, Int.reducePow, reduceIte, reduceCtorEq, Int.reduceMul, Int.reduceAdd, Int.reduceSub, Int.reduceMod, Int.reduceDiv, Int.reduceTDiv, Int.reduceTMod, iter_s]
        exact ⟨_, rfl, _, h, row', rfl, by rw [hsu]; exact H, hrow, by rw [hsu]; exact F, rfl, rfl, rfl, rfl, rfl, rfl, rfl, rfl, rfl⟩
      | true =>
        by_cases hB : M.clk t i < (M.rw p).1 i
        · have hb0 : clashB (M.rw p).1 (M.rw p).2 (M.clk t) t true i = true := by simp [clashB, hit, hB]
          rw [hb0, if_pos rfl] at hsu
          simp -implicitDefEqProofs only [c34b0, fgA, t0, t1, t2, t3, t10, t57, t58, t59, k1, k2, k3, k4, k5, p1, p2, v1, v2, v3, g1, g2, w1, hit', hA', hB, hA2, hb, push_cast, Nat.reduceAdd, Nat.reduceMul, Nat.reduceSub, Nat.reduceLT, Nat.reduceLeDiff, Nat.reduceEqDiff, Nat.reducePow, Int.reduceToNat, Int.reduceLT, Int.reduceLE, Int.reduceNeg, Int.reduceEq, Int.reducePow, reduceIte, reduceCtorEq, Int.reduceMul, Int.reduceAdd, Int.reduceSub, Int.reduceMod, Int.reduceDiv, Int.reduceTDiv, Int.reduceTMod, iter_s]
          exact ⟨_, rfl, _, _, row'', rfl, by rw [hsu]; exact H2', hrow2, by rw [hsu]; exact F2', rfl, rfl, rfl, rfl, rfl, rfl, rfl, rfl, rfl⟩
        · have hb0 : clashB (M.rw p).1 (M.rw p).2 (M.clk t) t true i = false := by simp [clashB, hit, hA', hB]
          rw [hb0, if_neg (by simp), List.append_nil] at hsu
          simp -implicitDefEqProofs only [c34b0, fgA, t0, t1, t2, t3, t10, t57, t58, t59, k1, k2, k3, k4, k5, p1, p2, v1, v2, v3, g1, g2, w1, hit', hA', hB, push_cast, Nat.reduceAdd, Nat.reduceMul, Nat.reduceSub, Nat.reduceLT, Nat.reduceLeDiff, Nat.reduceEqDiff, Nat.reducePow, Int.reduceToNat, Int.reduceLT, Int.reduceLE, Int.reduceNeg, Int.reduceEq, Int.reducePow, reduceIte, reduceCtorEq, Int.reduceMul, Int.reduceAdd, Int.reduceSub, Int.reduceMod, Int.reduceDiv, Int.reduceTDiv, Int.reduceTMod, iter_s]
          exact ⟨_, rfl, _, h, row', rfl, by rw [hsu]; exact H, hrow, by rw [hsu]; exact F, rfl, rfl, rfl, rfl, rfl, rfl, rfl, rfl, rfl⟩
theorem access_last (K : Nat) (h0 : List Row) (M : AM) (row : Tg → Nat) (t p : Nat) (wr : Bool) (s : St) (hs : SA h0 M row t p wr M.n s) :
    ∃ s', evCode (evF cm K) K 0 c34b0 (cleanN fgA s) = some (.exit 0, s') ∧ SA h0 M row t p wr M.n s' := by
  obtain ⟨T, h, row', rfl, H, hrow, F, hT, t0, t1, t2, t3, t10, t57, t58, t59⟩ := hs
  rw [tl139 hT]
  have g1 : ¬ (M.n : Int) < (M.n : Int) := by omega
  simp -implicitDefEqProofs only [c34b0, fgA, t0, t1, t2, t3, t10, t57, t58, t59, g1, push_cast, Nat.reduceAdd, Nat.reduceMul, Nat.reduceSub, Nat.reduceLT, Nat.reduceLeDiff, Nat.reduceEqDiff, Nat.reducePow, Int.reduceToNat, Int.reduceLT, Int.reduceLE, Int.reduceNeg, Int.reduceEq, Int.reducePow, reduceIte, reduceCtorEq, Int.reduceMul, Int.reduceAdd, Int.reduceSub, Int.reduceMod, Int.reduceDiv, Int.reduceTDiv, Int.reduceTMod, iter_s]
  exact ⟨_, rfl, _, h, row', rfl, H, hrow, F, rfl, rfl, rfl, rfl, rfl, rfl, rfl, rfl, rfl⟩
end Go.Proofs.Ytcmlnjkbdlakfaa
