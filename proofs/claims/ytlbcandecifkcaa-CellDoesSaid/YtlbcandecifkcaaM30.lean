/- An operation is done, by all that was done ahead of it: as the evaluator answers. -/
import Derived.Test.YtlbcandecifkcaaK30
set_option linter.unusedSimpArgs false
set_option linter.unusedVariables false
set_option maxRecDepth 100000
set_option maxHeartbeats 16000000
namespace Go.Proofs.Ytlbcandecifkcaa
open Go
structure D4 (h hh : List Row) (a b c d : List LV) : Prop where
  x : Ext h hh
  le : h.length + 4 ≤ hh.length
  r0 : rowOf hh h.length 0 = some a
  r1 : rowOf hh (h.length + 1) 0 = some b
  r2 : rowOf hh (h.length + 2) 0 = some c
  r3 : rowOf hh (h.length + 3) 0 = some d
section
variable {h hh h2 : List Row} {a b c d : List LV}
theorem D4.ext (D : D4 h hh a b c d) (x : Ext hh h2) : D4 h h2 a b c d := ⟨D.x.trans x, Nat.le_trans D.le x.le, x.row D.r0, x.row D.r1, x.row D.r2, x.row D.r3⟩
theorem D4.put3 (D : D4 h hh a b c d) (d' : List LV) : D4 h (hh.set (h.length + 3) ⟨0, d'⟩) a b c d' :=
  ⟨D.x.put (by omega) _, by rw [List.length_set]; exact D.le, by rw [rowOf_set_ne (by omega)]; exact D.r0, by rw [rowOf_set_ne (by omega)]; exact D.r1, by rw [rowOf_set_ne (by omega)]; exact D.r2, rowOf_set_eq (by have := D.le; omega)⟩
theorem D4.put0 (D : D4 h hh a b c d) (a' : List LV) : D4 h (hh.set h.length ⟨0, a'⟩) a' b c d :=
  ⟨D.x.put (by omega) _, by rw [List.length_set]; exact D.le, rowOf_set_eq (by have := D.le; omega), by rw [rowOf_set_ne (by omega)]; exact D.r1, by rw [rowOf_set_ne (by omega)]; exact D.r2, by rw [rowOf_set_ne (by omega)]; exact D.r3⟩
theorem D4.put2 (D : D4 h hh a b c d) (c' : List LV) : D4 h (hh.set (h.length + 2) ⟨0, c'⟩) a b c' d :=
  ⟨D.x.put (by omega) _, by rw [List.length_set]; exact D.le, by rw [rowOf_set_ne (by omega)]; exact D.r0, by rw [rowOf_set_ne (by omega)]; exact D.r1, rowOf_set_eq (by have := D.le; omega), by rw [rowOf_set_ne (by omega)]; exact D.r3⟩
theorem D4.low (D : D4 h hh a b c d) (hl : hh.length ≤ h2.length) (hs : ∀ k, k < h.length + 4 → h2[k]? = hh[k]?) : D4 h h2 a b c d :=
  ⟨⟨by have := D.x.le; omega, fun k hk => (hs k (by omega)).trans (D.x.same k hk)⟩, Nat.le_trans D.le hl, rowOf_at (by rw [hs _ (by omega)]; exact at_rowOf D.r0), rowOf_at (by rw [hs _ (by omega)]; exact at_rowOf D.r1), rowOf_at (by rw [hs _ (by omega)]; exact at_rowOf D.r2), rowOf_at (by rw [hs _ (by omega)]; exact at_rowOf D.r3)⟩
end
theorem D4.mk4 (h : List Row) (a b c d : List LV) : D4 h (h ++ [⟨0, a⟩, ⟨0, b⟩, ⟨0, c⟩, ⟨0, d⟩]) a b c d := by
  refine ⟨Ext.app _ _, by simp, rowOf_app_eq, ?_, ?_, ?_⟩
  · refine rowOf_at ?_
    rw [List.getElem?_append_right (by omega), show h.length + 1 - h.length = 1 by omega]; rfl
  · refine rowOf_at ?_
    rw [List.getElem?_append_right (by omega), show h.length + 2 - h.length = 2 by omega]; rfl
  · refine rowOf_at ?_
    rw [List.getElem?_append_right (by omega), show h.length + 3 - h.length = 3 by omega]; rfl
theorem app4_3 {h : List Row} {a b c d x : Row} : (h ++ [a, b, c, d]).set (h.length + 3) x = h ++ [a, b, c, x] := by
  rw [List.set_append_right _ _ (by omega), show h.length + 3 - h.length = 3 by omega]; rfl
/-- What is done, but for what it is behind. -/
def ddC (kd t a o n : Int) (w : Bool) (v : Int) (is : Bool) : List LV := [.i kd, .i t, .i a, .i o, .i n, .nils, .b w, .i v, .b is]
/-- The first half of what is left to do: what it is behind; for an access, the clashes. -/
theorem do_half (k : Nat) (h : List Row) (hne : h.isEmpty = false) (N : Nat) (hN : N ≤ 80) (na np nl : Int) (L : List Dn) (cl : List (Int × Int × Int)) (LS CS : LV) {P : Nat → Prop} (H : HAll h P L cl LS CS) (hL : L.length < 60) (hclen : cl.length < 10000000)
    (kd t a o n : Int) (sees : Bool) (d : Dn) (hd : d = ⟨kd, t, a, o, n, behind L t (lastW L kd a) sees, d.w, d.v, d.is⟩) (hh : List Row) (D : D4 h hh [.i N, .i na, .i np, .i nl, LS, CS] [.i kd, .i t, .i a, .i o, .i n] [.i 0, .i 0, .i 0, .i 0, .nils, .nils] (ddC kd t a o n d.w d.v d.is)) :
    ∃ kb h2 h3, evF cm (k + 90) 32 [.agg [.i N, .i na, .i np, .i nl, LS, CS], .agg [.i kd, .i t, .i a, .i o, .i n], .b sees] hh 0 = some (.sl kb 0 0 L.length 1 L.length, h2) ∧ rowOf h2 (h.length + 3) 0 = some (ddC kd t a o n d.w d.v d.is) ∧ h2.set (h.length + 3) ⟨0, dnC d kb L.length⟩ = h3 ∧
      D4 h h3 [.i N, .i na, .i np, .i nl, LS, CS] [.i kd, .i t, .i a, .i o, .i n] [.i 0, .i 0, .i 0, .i 0, .nils, .nils] (dnC d kb L.length) ∧ D4 h h2 [.i N, .i na, .i np, .i nl, LS, CS] [.i kd, .i t, .i a, .i o, .i n] [.i 0, .i 0, .i 0, .i 0, .nils, .nils] (ddC kd t a o n d.w d.v d.is) ∧
      rowOf h3 kb 0 = some (bools d.bf) ∧ h.length + 4 ≤ kb ∧ d.bf.length = L.length := by
  have H1 := H.ext D.x
  obtain ⟨h2, e2, x2, r2⟩ := behind_ok k hh (by have := D.le; cases hh with | nil => simp at this | cons _ _ => rfl) N na np nl L cl LS CS H1 kd t a o n sees
  have D2 := D.ext x2
  have hb : d.bf = behind L t (lastW L kd a) sees := by rw [hd]
  refine ⟨hh.length + 2, h2, _, e2, D2.r3, rfl, D2.put3 _, D2, ?_, by have := D.le; omega, by rw [hb]; simp [behind]⟩
  rw [rowOf_set_ne (by have := D.le; omega), hb]; exact r2
/-- The second half: the list is copied, and it is added. -/
theorem do_rest (h : List Row) (N : Nat) (na np nl : Int) (L : List Dn) (cl : List (Int × Int × Int)) (LS CS' : LV) (d : Dn) (kb : Nat) (od : List LV) (h7 : List Row) (D : D4 h h7 [.i N, .i na, .i np, .i nl, LS, CS'] od [.i 0, .i 0, .i 0, .i 0, .nils, .nils] (dnC d kb L.length))
    {P : Nat → Prop} (HL : LAt h P L LS) (HC : C3At h7 (fun k => (P k ∧ k < h.length) ∨ h.length + 4 ≤ k) cl CS') (hL : L.length < 60) (hkb : rowOf h7 kb 0 = some (bools d.bf)) (hk4 : h.length + 4 ≤ kb) (hdl : d.bf.length = L.length) :
    ∃ B h8 LS' h9 h10 h11, (newsE h7 9 LS).bind (appK 0 h7 9 88 (.im [] 0 true)) = some (B, h8) ∧ appE 0 h8 9 88 (dnC d kb L.length) 1 B = some (LS', h9) ∧ rowOf h9 h.length 0 = some [.i N, .i na, .i np, .i nl, LS, CS'] ∧
      h9.set h.length ⟨0, [.i N, .i na, .i np, .i nl, LS', CS']⟩ = h10 ∧ rowOf h10 h.length 0 = some [.i N, .i na, .i np, .i nl, LS', CS'] ∧ rowOf h10 (h.length + 2) 0 = some [.i 0, .i 0, .i 0, .i 0, .nils, .nils] ∧
      h10.set (h.length + 2) ⟨0, [.i N, .i na, .i np, .i nl, LS', CS']⟩ = h11 ∧ rowOf h11 (h.length + 2) 0 = some [.i N, .i na, .i np, .i nl, LS', CS'] ∧ Ext h h11 ∧ LAt h11 (fun k => (P k ∧ k < h.length) ∨ h.length + 4 ≤ k) (L ++ [d]) LS' ∧ C3At h11 (fun k => (P k ∧ k < h.length) ∨ h.length + 4 ≤ k) cl CS' ∧ (atomB LS' = true ∧ LS'.cells = [LS']) := by
  obtain ⟨B, h8, LS', h9, e8, e9, x9, a9, l9⟩ := l_step HL D.x hL d kb hkb hdl
  have D9 := D.ext x9
  have D10 := D9.put0 [.i N, .i na, .i np, .i nl, LS', CS']
  have D11 := D10.put2 [.i N, .i na, .i np, .i nl, LS', CS']
  have keep : ∀ (k v : Nat) cs, k < h.length ∨ h.length + 4 ≤ k → rowOf h9 k v = some cs → rowOf ((h9.set h.length ⟨0, [.i N, .i na, .i np, .i nl, LS', CS']⟩).set (h.length + 2) ⟨0, [.i N, .i na, .i np, .i nl, LS', CS']⟩) k v = some cs := by
    intro k v cs hk e
    rw [rowOf_set_ne (by omega), rowOf_set_ne (by omega)]; exact e
  refine ⟨B, h8, LS', h9, _, _, e8, e9, D9.r0, rfl, D10.r0, D10.r2, rfl, D11.r2, D11.x, l9.mono fun k v cs hk e => ?_, HC.mono fun k v cs hk e => ⟨keep k v cs (by omega) (x9.row e), hk⟩, a9⟩
  have := D.le
  have hk' : (P k ∧ k < h.length) ∨ h.length + 4 ≤ k := by
    rcases hk with hk | hk | hk
    · exact .inl hk
    · exact .inr (by omega)
    · exact .inr (by omega)
  exact ⟨keep k v cs (by omega) e, hk'⟩
/-- The clashes of an access are told. -/
theorem do_clash (k : Nat) (h : List Row) (N : Nat) (hN : N ≤ 80) (na np nl : Int) (L : List Dn) (cl : List (Int × Int × Int)) (LS CS : LV) {P : Nat → Prop} (H : HAll h P L cl LS CS) (hclen : cl.length < 10000000) (d : Dn) (kb : Nat) (od : List LV) (h3 : List Row)
    (D : D4 h h3 [.i N, .i na, .i np, .i nl, LS, CS] od [.i 0, .i 0, .i 0, .i 0, .nils, .nils] (dnC d kb L.length)) (hkb : rowOf h3 kb 0 = some (bools d.bf)) (hk4 : h.length + 4 ≤ kb) (hdl : d.bf.length = L.length) :
    ∃ A h4 S h5 CS' h6 h7, (newsE h3 3 CS).bind (appK 0 h3 3 24 (.im [] 0 true)) = some (A, h4) ∧ evF cm (k + 90) 33 [.agg [.i N, .i na, .i np, .i nl, LS, CS], .agg (dnC d kb L.length)] h4 0 = some (S, h5) ∧
      (newsE h5 3 S).bind (appK 0 h5 3 24 A) = some (CS', h6) ∧ rowOf h6 h.length 0 = some [.i N, .i na, .i np, .i nl, LS, CS] ∧ h6.set h.length ⟨0, [.i N, .i na, .i np, .i nl, LS, CS']⟩ = h7 ∧
      D4 h h7 [.i N, .i na, .i np, .i nl, LS, CS'] od [.i 0, .i 0, .i 0, .i 0, .nils, .nils] (dnC d kb L.length) ∧ C3At h7 (fun k => (P k ∧ k < h.length) ∨ h.length + 4 ≤ k) (cl ++ hcl N L d) CS' ∧
      rowOf h7 kb 0 = some (bools d.bf) ∧ (atomB CS' = true ∧ CS'.cells = [CS']) := by
  have H3 := H.ext D.x
  obtain ⟨A, h4, e4, x4, hA⟩ := c3_clone H3.c (by omega)
  have D4' := D.ext x4
  have H4 := H3.ext x4
  obtain ⟨h5, S, e5, x5, G5⟩ := hclash_ok k h4 (by have := D4'.le; cases h4 with | nil => simp at this | cons _ _ => rfl) N hN na np nl L cl LS CS H4 d kb (x4.row hkb) hdl
  have D5 := D4'.ext x5
  have hll := hcl_len L d N
  have hA5 : (cl = [] ∧ A = .im [] 0 true) ∨ (cl ≠ [] ∧ ∃ k, h3.length ≤ k ∧ A = .sl k 0 0 cl.length 3 cl.length ∧ rowOf h5 k 0 = some (clCells cl)) := by
    rcases hA with hh | ⟨h1, h2, h3'⟩
    · exact .inl hh
    · exact .inr ⟨h1, h3.length, Nat.le_refl _, h2, x5.row h3'⟩
  -- the copy lies behind h3
  have hle5 : h3.length ≤ h5.length := Nat.le_trans x4.le x5.le
  obtain ⟨CS', h6, e6, c6, l6, s6⟩ := c3_join (n0 := h3.length) hA5 hle5 G5.c3 (by omega) (by omega)
  have hle := D.le
  have D6 := D5.low (h2 := h6) l6 (fun k hk => s6 k (by omega))
  have D7 := D6.put0 [.i N, .i na, .i np, .i nl, LS, CS']
  have kbl := rowOf_lt hkb
  have hkeep : ∀ (k v : Nat) cs, h.length ≠ k → rowOf h6 k v = some cs → rowOf (h6.set h.length ⟨0, [.i N, .i na, .i np, .i nl, LS, CS']⟩) k v = some cs := fun k v cs hk e => by rw [rowOf_set_ne hk]; exact e
  refine ⟨A, h4, S, h5, CS', h6, _, e4, e5, e6, D6.r0, rfl, D7, c6.mono fun k v cs hk e => ⟨hkeep k v cs (by omega) e, .inr (by omega)⟩, ?_, c6.atm⟩
  · refine hkeep _ _ _ (by omega) ?_
    have := (x4.trans x5).row hkb
    refine rowOf_at ?_
    rw [s6 kb kbl]; exact at_rowOf this
end Go.Proofs.Ytlbcandecifkcaa
