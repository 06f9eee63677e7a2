/- What was put is a thing of its own: the walk. -/
import Derived.Test.YtichjheodohkaaaUA22
set_option linter.unusedSimpArgs false
set_option linter.unusedVariables false
set_option maxRecDepth 100000
set_option maxHeartbeats 8000000
namespace Go.Proofs.Ytichjheodohkaaa
open Go Go.RowKit
theorem owns_in {w : World} {bv ov nv cv bl ol nl cl : Nat} {vl il : List Int} (v0 : 0 < nv) (v1 : nv ≤ 1024) (v2 : vl.length = nv * 9) (v3 : nv ≤ cv) (hv : At w bv ov vl) (l0 : 0 < nl) (l1 : nl ≤ 4096) (l2 : il.length = nl * 1) (l3 : nl ≤ cl) (hl : At w bl ol il) :
    CallsIn Fence.wide 5 Try.prog 3 #[.slice (some ⟨bv, ov, none⟩) nv cv, .slice (some ⟨bl, ol, none⟩) nl cl] w fun e w' => e = .returned (.bool true) ∧ Below w.heap.size w w' := by
  have g1 : ¬ (nv : Int) < 1 := by omega
  have g2 : ¬ 1024 < (nv : Int) := by omega
  have g3 : ¬ (nl : Int) < 1 := by omega
  have g4 : ¬ 4096 < (nl : Int) := by omega
  obtain ⟨iV, i1, i2, i3, i4⟩ := info_parts infoV
  obtain ⟨iI, j1, j2, j3, j4⟩ := info_parts infoI
  have u22 := und22
  have u23 := und23
  -- the table is made
  obtain ⟨W1, hW1⟩ : ∃ W1, (w.alloc (.map #[] 0)).alloc (.cells #[.map (some w.heap.size)] 64) = W1 := ⟨_, rfl⟩
  have s1 : W1.heap.size = w.heap.size + 2 := by rw [← hW1]; simp
  have b1 : Below w.heap.size w W1 := by rw [← hW1]; exact ((Below.refl _ _).alloc (Nat.le_refl _) _).alloc (by simp) _
  have t1 : W1.cell? ⟨w.heap.size + 1, 0, none⟩ = some (.map (some w.heap.size)) := by rw [← hW1]; simp [go_sem]
  have m1 : W1.heap[w.heap.size]? = some (.map #[] 0) := by
    rw [← hW1, Below.heap_alloc _ _ _ (by simp)]
    exact World.alloc_heap_new w _
  have nc : CallsIn Fence.wide 4 Try.prog 7 #[] w fun e w' => e = .returned (.pointer (some ⟨w.heap.size + 1, 0, none⟩)) ∧ W1 = w' := (callsIn_wide.2 (new_c w)).mono fun e w' h => ⟨h.1, (h.2.trans hW1).symm⟩
  -- a copy of the vertices
  have o2 := own_nil (w := W1) (e := 32) (size := 9) (base := W1.heap.size) (Nat.le_refl _)
  rw [s1] at o2
  have bA : Below W1.heap.size W1 (W1.alloc (.cells #[] 32)) := (Below.refl _ _).alloc (Nat.le_refl _) _
  have hv2 : At (W1.alloc (.cells #[] 32)) bv ov vl := (hv.below b1 hv.1).below bA (by have := hv.1; omega)
  refine callsIn_of_wp Try.func3 rfl trivial ?_ rfl
  simp only [Try.ntmps3, List.size_toArray, List.length_cons, List.length_nil, Nat.reduceAdd, Nat.reduceSub, Array.replicate_succ, Array.replicate_zero, List.push_toArray, List.append_toArray, List.nil_append, List.cons_append]
  gi_wp2_with (first
    | (refine ⟨trivial, ?_⟩; gi_at_call 7; refine nc.mono ?_; rintro e w' ⟨rfl, rfl⟩)
    | (gi_at_builtin; refine wpListIn_append_own _ rfl _ _ 22 rfl (w.heap.size + 2) 32 iV zV 9 72 u22 i1 i2 i3 i4 rfl (by decide) _ 0 [] rfl o2 ⟨bv, ov, none⟩ nv cv (vl.map fun z => Value.int .i64 z) rfl (by simp [v2]) (news_at hv2) (news_one vl) (by simp [maxLen]; omega) (by omega) (by rw [World.size_alloc, s1]; omega) ?_; intro v' W2 ho hg _; rw [Nat.zero_add, List.nil_append] at ho; obtain ⟨ga, ca, rfl, k1, k2, hA, fA⟩ := owned ho v0 (by omega); go_loud (
           have hg : (W1.alloc (.cells #[] 32)).grownBy W2 (some (w.heap.size + 2)) := hg
           have q2 : Below (w.heap.size + 2) W1 W2 := Below.trans ((Below.refl _ W1).alloc (by omega) _) ⟨hg.os, hg.tape, hg.output, hg.size, fun k hk => hg.block k (by rw [World.size_alloc]; omega) (by simp; omega)⟩
           have c2 : Below w.heap.size w W2 := b1.trans (q2.mono (by omega))
           have t2 := (cell_below q2 (b := w.heap.size + 1) (o := 0) (by omega)).trans t1
           have m2 := (q2.block w.heap.size (by omega)).trans m1
           have z2 : w.heap.size + 2 ≤ W2.heap.size := by have := q2.size; omega
           have o3 := own_nil (w := W2) (e := 3) (size := 1) (base := W2.heap.size) (Nat.le_refl _)
           have hl3 : At (W2.alloc (.cells #[] 3)) bl ol il := (hl.below c2 hl.1).below ((Below.refl _ _).alloc (Nat.le_refl _) _) (by have := hl.1; omega)))
    | (gi_at_builtin; refine wpListIn_append_own _ rfl _ _ 23 rfl W2.heap.size 3 iI (.int .i64 0) 1 8 u23 j1 j2 j3 j4 rfl (by decide) _ 0 [] rfl o3 ⟨bl, ol, none⟩ nl cl (il.map fun z => Value.int .i64 z) rfl (by simp [l2]) (news_at hl3) (news_one il) (by simp [maxLen]; omega) (by omega) (by rw [World.size_alloc]; omega) ?_; intro v' W3 ho3 hg3 _; rw [Nat.zero_add, List.nil_append] at ho3; obtain ⟨gb, cb, rfl, k3, k4, hB, fB⟩ := owned ho3 l0 (by omega); go_loud (
           have hg3 : (W2.alloc (.cells #[] 3)).grownBy W3 (some W2.heap.size) := hg3
           have q3 : Below W2.heap.size W2 W3 := Below.trans ((Below.refl _ W2).alloc (Nat.le_refl _) _) ⟨hg3.os, hg3.tape, hg3.output, hg3.size, fun k hk => hg3.block k (by rw [World.size_alloc]; omega) (by simp; omega)⟩
           have c3 : Below w.heap.size w W3 := c2.trans (q3.mono c2.size)
           have t3 := (cell_below q3 (b := w.heap.size + 1) (o := 0) (by omega)).trans t2
           have m3 := (q3.block w.heap.size (by omega)).trans m2
           have z3 := q3.size
           have lA := hA.1
           have lB := hB.1
           have hA3 := hA.below q3 lA
           have fA3 := (q3.frozen (p := ⟨ga, 0, none⟩) lA).trans fA
           have nAB : ¬ ga = gb := by omega
           have nBA : ¬ gb = ga := by omega))
    | (refine ⟨trivial, ?_⟩; gi_at_call 8; have hq := put_a (bt := w.heap.size + 1) (bm := w.heap.size) v0 v1 v2 k1 hA3 t3 m3 (by omega) (by omega); refine (callsIn_wide.2 hq).mono ?_; clear hq m3; rintro e W4 ⟨rfl, ⟨pa, oa, ca', k5, m4, hP, k6⟩, u4⟩; go_loud (
           have z4 := u4.size
           have t4 := (u4.cell (b := w.heap.size + 1) (o := 0) (by omega) (by omega)).trans t3
           have hA4 := hA3.but u4 (by omega)
           have hB4 := hB.but u4 (by omega)
           have fA4 := (World.frozen?_of_block (a := ⟨ga, 0, none⟩) (u4.block ga (by omega) (by omega))).trans fA3
           have fB4 := (World.frozen?_of_block (a := ⟨gb, 0, none⟩) (u4.block gb (by omega) (by omega))).trans fB
           have c4 : Below w.heap.size w W4 := c3.trans (u4.below (Nat.le_refl _) (by omega))))
    | (refine ⟨trivial, ?_⟩; gi_at_call 8; have hq := put_b (bt := w.heap.size + 1) (bm := w.heap.size) l0 l1 l2 k3 hB4 t4 m4 (by omega) (by omega); refine (callsIn_wide.2 hq).mono ?_; clear hq m4; rintro e W5 ⟨rfl, ⟨pb, ob, cb', k7, m5, hQ, k8⟩, u5⟩; go_loud (
           have z5 := u5.size
           have t5 := (u5.cell (b := w.heap.size + 1) (o := 0) (by omega) (by omega)).trans t4
           have hP5 := hP.but u5 (by omega)
           have lP := hP.1
           have lQ := hQ.1
           have fA5 := (World.frozen?_of_block (a := ⟨ga, 0, none⟩) (u5.block ga (by omega) (by omega))).trans fA4
           have fB5 := (World.frozen?_of_block (a := ⟨gb, 0, none⟩) (u5.block gb (by omega) (by omega))).trans fB4
           have hA5 := (hA4.but u5 (by omega)).2 0 (by omega)
           have hB5 := (hB4.but u5 (by omega)).2 0 (by omega)
           rw [Nat.add_zero] at hA5 hB5
           have c5 : Below w.heap.size w W5 := c4.trans (u5.below (Nat.le_refl _) (by omega))
           have T5 : Tab W5 (w.heap.size + 1) w.heap.size _ _ := ⟨t5, m5, by omega⟩
           have T6 := fun x y => (T5.set ⟨ga, 0, none⟩ x (by show ga ≠ w.heap.size + 1; omega) (by show ga ≠ w.heap.size; omega)).set ⟨gb, 0, none⟩ y (by show gb ≠ w.heap.size + 1; omega) (by show gb ≠ w.heap.size; omega)
           have hP6 := fun x y => (hP5.set ⟨ga, 0, none⟩ x (by show ga ≠ pa; omega)).set ⟨gb, 0, none⟩ y (by show gb ≠ pa; omega)
           have hQ6 := fun x y => (hQ.set ⟨ga, 0, none⟩ x (by show ga ≠ pb; omega)).set ⟨gb, 0, none⟩ y (by show gb ≠ pb; omega)
           have c6 := fun x y => (c5.setCell (p := ⟨ga, 0, none⟩) (by show w.heap.size ≤ ga; omega) x).setCell (p := ⟨gb, 0, none⟩) (by show w.heap.size ≤ gb; omega) y))
    | (refine ⟨trivial, ?_⟩; gi_at_call 9; refine (callsIn_wide.2 (verts_c2 (T6 _ _) v0 (by omega) v2 k5 (hP6 _ _))).mono ?_; rintro e W7 ⟨⟨bc, oc, cc, k9, rfl, hC, k10, fC⟩, u7⟩; go_loud (
           have k10 : W5.heap.size ≤ bc := by simpa using k10
           have T7 := (T6 _ _).below u7
           have hP7 := (hP6 _ _).below u7 (by simp; omega)
           have hQ7 := (hQ6 _ _).below u7 (by simp; omega)
           have c7 : Below w.heap.size w W7 := (c6 _ _).trans (u7.mono (by simp; omega))
           have z7 : W5.heap.size ≤ W7.heap.size := by have := u7.size; simpa using this
           have lC := hC.1
           clear T6 hP6 hQ6 c6 u7))
    | (refine ⟨trivial, ?_⟩; gi_at_call 10; refine (callsIn_wide.2 (index_c2 T7 l0 l1 l2 k7 hQ7)).mono ?_; rintro e W8 ⟨⟨bd, od, cd, k11, rfl, hD, k12, fD⟩, u8⟩; go_loud (
           have T8 := T7.below u8
           have hP8 := hP7.below u8 (by omega)
           have hQ8 := hQ7.below u8 (by omega)
           have hC8 := hC.below u8 lC
           have c8 : Below w.heap.size w W8 := c7.trans (u8.mono (by omega))
           have z8 := u8.size
           have lD := hD.1
           have fC8 : ∀ i, W8.frozen? ⟨bc, i, none⟩ = false := fun i => (u8.frozen (p := ⟨bc, i, none⟩) lC).trans (fC i)
           have hv8 := hv.below c8 hv.1
           clear T7 hP7 hQ7 hC fC u8))
    | (refine ⟨trivial, ?_⟩; gi_at_call 11; refine (callsIn_wide.2 (eqV_c nv bc oc cc bv ov cv vl W8 v0 (by omega) v2 k9 v3 hC8 hv8)).mono ?_; rintro e W9 ⟨rfl, u9⟩; go_loud (
           have T9 := T8.below u9
           have hP9 := hP8.below u9 (by omega)
           have hQ9 := hQ8.below u9 (by omega)
           have hC9 := hC8.below u9 (by omega)
           have hD9 := hD.below u9 lD
           have c9 : Below w.heap.size w W9 := c8.trans (u9.mono (by omega))
           have z9 := u9.size
           have fC9 : ∀ i, W9.frozen? ⟨bc, i, none⟩ = false := fun i => (u9.frozen (p := ⟨bc, i, none⟩) (by show bc < _; omega)).trans (fC8 i)
           have fD9 : ∀ i, W9.frozen? ⟨bd, i, none⟩ = false := fun i => (u9.frozen (p := ⟨bd, i, none⟩) lD).trans (fD i)
           have hl9 := hl.below c9 hl.1
           clear T8 hP8 hQ8 hC8 hD fC8 fD u9 hv8))
    | (refine ⟨trivial, ?_⟩; gi_at_call 12; refine (callsIn_wide.2 (eqI_c nl bd od cd bl ol cl il W9 l0 l1 l2 k11 l3 hD9 hl9)).mono ?_; rintro e W10 ⟨rfl, u10⟩; go_loud (
           have T10 := T9.below u10
           have hP10 := hP9.below u10 (by omega)
           have hQ10 := hQ9.below u10 (by omega)
           have hC10 := (hC9.below u10 (by omega)).2 0 (by omega)
           have hD10 := (hD9.below u10 (by omega)).2 0 (by omega)
           have hC10 := (by rw [Nat.add_zero] at hC10; exact hC10 : W10.cell? ⟨bc, oc, none⟩ = some (.int .i64 (vl.getD 0 0)))
           have hD10 := (by rw [Nat.add_zero] at hD10; exact hD10 : W10.cell? ⟨bd, od, none⟩ = some (.int .i64 (il.getD 0 0)))
           have c10 : Below w.heap.size w W10 := c9.trans (u10.mono (by omega))
           have z10 := u10.size
           have fC10 := (u10.frozen (p := ⟨bc, oc, none⟩) (by show bc < _; omega)).trans (fC9 oc)
           have fD10 := (u10.frozen (p := ⟨bd, od, none⟩) (by show bd < _; omega)).trans (fD9 od)
           have nCD : ¬ bc = bd := by omega
           have nDC : ¬ bd = bc := by omega
           have T11 := fun x y => (T10.set ⟨bc, oc, none⟩ x (by show bc ≠ w.heap.size + 1; omega) (by show bc ≠ w.heap.size; omega)).set ⟨bd, od, none⟩ y (by show bd ≠ w.heap.size + 1; omega) (by show bd ≠ w.heap.size; omega)
           have hP11 := fun x y => (hP10.set ⟨bc, oc, none⟩ x (by show bc ≠ pa; omega)).set ⟨bd, od, none⟩ y (by show bd ≠ pa; omega)
           have hQ11 := fun x y => (hQ10.set ⟨bc, oc, none⟩ x (by show bc ≠ pb; omega)).set ⟨bd, od, none⟩ y (by show bd ≠ pb; omega)
           have c11 := fun x y => (c10.setCell (p := ⟨bc, oc, none⟩) (by show w.heap.size ≤ bc; omega) x).setCell (p := ⟨bd, od, none⟩) (by show w.heap.size ≤ bd; omega) y
           clear T9 T10 hP9 hQ9 hC9 hD9 fC9 fD9 hP10 hQ10 u10 hl9))
    | (refine ⟨trivial, ?_⟩; gi_at_call 9; refine (callsIn_wide.2 (verts_c2 (T11 _ _) v0 (by omega) v2 k5 (hP11 _ _))).mono ?_; rintro e W12 ⟨⟨be, oe, ce, k13, rfl, hE, k14, fE⟩, u12⟩; go_loud (
           have T12 := (T11 _ _).below u12
           have hQ12 := (hQ11 _ _).below u12 (by simp; omega)
           have c12 : Below w.heap.size w W12 := (c11 _ _).trans (u12.mono (by simp; omega))
           have z12 : W10.heap.size ≤ W12.heap.size := by have := u12.size; simpa using this
           have lE := hE.1
           clear T11 hP11 hQ11 c11 fE u12 k14))
    | (refine ⟨trivial, ?_⟩; gi_at_call 10; refine (callsIn_wide.2 (index_c2 T12 l0 l1 l2 k7 hQ12)).mono ?_; rintro e W13 ⟨⟨bf, of, cf, k15, rfl, hF, k16, fF⟩, u13⟩; go_loud (
           have hE13 := hE.below u13 lE
           have c13 : Below w.heap.size w W13 := c12.trans (u13.mono (by omega))
           have z13 := u13.size
           have lF := hF.1
           have hv13 := hv.below c13 hv.1
           clear T12 hQ12 hE fF u13))
    | (refine ⟨trivial, ?_⟩; gi_at_call 11; refine (callsIn_wide.2 (eqV_c nv be oe ce bv ov cv vl W13 v0 (by omega) v2 k13 v3 hE13 hv13)).mono ?_; rintro e W14 ⟨rfl, u14⟩; go_loud (
           have hF14 := hF.below u14 lF
           have c14 : Below w.heap.size w W14 := c13.trans (u14.mono (by omega))
           have z14 := u14.size
           have hl14 := hl.below c14 hl.1
           clear hE13 hF u14 hv13))
    | (refine ⟨trivial, ?_⟩; gi_at_call 12; refine (callsIn_wide.2 (eqI_c nl bf of cf bl ol cl il W14 l0 l1 l2 k15 l3 hF14 hl14)).mono ?_; rintro e W15 ⟨rfl, u15⟩; go_loud (
           have c15 : Below w.heap.size w W15 := c14.trans (u15.mono (by omega))
           have z15 := u15.size
           clear hF14 u15 hl14))
    | (refine ⟨trivial, ?_⟩; gi_at_call 6; refine (callsIn_wide.2 (awake_c clone_c W15)).mono ?_; rintro e W16 ⟨rfl, u16⟩; go_loud (
           have c16 : Below w.heap.size w W16 := c15.trans (u16.mono (by omega))
           clear u16)))
  go_ret
  exact ⟨rfl, c16⟩
theorem owns_out {w : World} {av al : Option Addr} {nv cv nl cl : Nat} (h : nv < 1 ∨ 1024 < nv ∨ nl < 1 ∨ 4096 < nl) :
    CallsIn Fence.wide 5 Try.prog 3 #[.slice av nv cv, .slice al nl cl] w fun e w' => e = .returned (.bool true) ∧ Below w.heap.size w w' := by
  have aw : CallsIn Fence.wide 4 Try.prog 6 #[] w fun e w' => e = .returned (.bool true) ∧ Below w.heap.size w w' := callsIn_wide.2 (awake_c clone_c w)
  refine callsIn_of_wp Try.func3 rfl trivial ?_ rfl
  simp only [Try.ntmps3, List.size_toArray, List.length_cons, List.length_nil, Nat.reduceAdd, Nat.reduceSub, Array.replicate_succ, Array.replicate_zero, List.push_toArray, List.append_toArray, List.nil_append, List.cons_append]
  by_cases h1 : (nv : Int) < 1
  · gi_wp2_with (refine ⟨trivial, ?_⟩; gi_at_call 6; refine aw.mono ?_; rintro e w' ⟨rfl, u⟩)
    go_ret
    exact ⟨rfl, u⟩
  by_cases h2 : 1024 < (nv : Int)
  · gi_wp2_with (refine ⟨trivial, ?_⟩; gi_at_call 6; refine aw.mono ?_; rintro e w' ⟨rfl, u⟩)
    go_ret
    exact ⟨rfl, u⟩
  by_cases h3 : (nl : Int) < 1
  · gi_wp2_with (refine ⟨trivial, ?_⟩; gi_at_call 6; refine aw.mono ?_; rintro e w' ⟨rfl, u⟩)
    go_ret
    exact ⟨rfl, u⟩
  have h4 : 4096 < (nl : Int) := by omega
  gi_wp2_with (refine ⟨trivial, ?_⟩; gi_at_call 6; refine aw.mono ?_; rintro e w' ⟨rfl, u⟩)
  go_ret
  exact ⟨rfl, u⟩
end Go.Proofs.Ytichjheodohkaaa
