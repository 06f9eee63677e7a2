/- Vertices, three by three: the walk, of what is in range. -/
import Derived.Test.YteeghebaankmlaaTG24
set_option linter.unusedSimpArgs false
set_option linter.unusedVariables false
set_option maxRecDepth 100000
set_option maxHeartbeats 4000000
namespace Go.Proofs.Yteeghebaankmlaa
open Go Go.RowKit Go.Shelf
attribute [local go_sem] Oper.semAt_some
def OutAt (W : World) (n m : Nat) (cells : List LV) (u : Value) : Prop :=
  (m = 0 ∧ u = .slice none 0 0) ∨ (m ≠ 0 ∧ ∃ b o c, u = .slice (some ⟨b, o, none⟩) m c ∧ m ≤ c ∧ n ≤ b ∧ b ≠ n + 1 ∧ b ≠ n + 2 ∧ ∀ (j : Nat) z, cells[j]? = some (.i z) → W.cell? ⟨b, o + j, none⟩ = some (.int .i64 z))
theorem set_far (w : World) (p a : Addr) (v : Value) (h : p.block ≠ a.block) : (w.setCell p v).cell? a = w.cell? a := by
  rw [World.cell?_setCell_other]
  rintro rfl
  exact h rfl
theorem frozen_of {W : World} {b o : Nat} {us : Array Value} {t : TypeId} (h : W.heap[b]? = some (.cells us t (0, 0))) : W.frozen? ⟨b, o, none⟩ = false := by
  simp [World.frozen?, show W.heap[(⟨b, o, none⟩ : Addr).block]? = _ from h]
theorem inv_end {w : World} {V : LV} {vl : List Int} {nv : Nat} {g : Nat → Int} {m : Nat} {pre : List (Fin m)} {W : World} (hI : Inv w V vl nv g m pre W) (hl : pre.length = m) :
    ∃ u, W.cell? ⟨w.heap.size + 3, 0, none⟩ = some u ∧ OutAt W w.heap.size m (cellsP vl g pre) u ∧ W.cell? ⟨w.heap.size + 1, 0, none⟩ = some (.slice none 0 0) ∧ W.frozen? ⟨w.heap.size + 1, 0, none⟩ = false ∧ W.cell? ⟨w.heap.size + 2, 0, none⟩ = some (.int .i64 0) ∧ W.frozen? ⟨w.heap.size + 2, 0, none⟩ = false := by
  obtain ⟨⟨C, h, ko, A, H⟩, hb, hs, ho⟩ := hI
  have hw := A.w
  subst hw
  obtain ⟨u3, q1, q2⟩ := row_cell (i := 0) A.rel H.r3 A.p3 rfl
  obtain ⟨u1, c1, d1⟩ := row_cell (i := 0) A.rel H.r1 A.p1 rfl
  obtain ⟨u2, c2, d2⟩ := row_cell (i := 0) A.rel H.r2 A.p2 rfl
  have z1 := Conc.v_inv d1
  have z2 := Conc.v_inv d2
  subst z1; subst z2
  obtain ⟨_, us1, t1, f1, _⟩ := A.rel.row 1 _ 0 _ A.p1 (at_rowOf H.r1)
  obtain ⟨_, us2, t2, f2, _⟩ := A.rel.row 2 _ 0 _ A.p2 (at_rowOf H.r2)
  refine ⟨u3, q1, ?_, c1, frozen_of f1, c2, frozen_of f2⟩
  by_cases h0 : pre.length = 0
  · rw [if_pos h0] at q2
    have := Conc.v_inv q2
    exact .inl ⟨by omega, this⟩
  · rw [if_neg h0] at q2
    obtain ⟨ro, k4⟩ := H.ro h0
    cases q2 with
    | sl g1 g2 g3 g4 =>
      rename_i b o c
      refine .inr ⟨by omega, b, o + 0, c, by rw [hl], by omega, (A.rel.row ko b o _ g1 (at_rowOf ro)).1, fun hh => ?_, fun hh => ?_, fun j z hj => ?_⟩
      · subst hh; have := A.rel.inj _ _ _ _ _ g1 A.p1; omega
      · subst hh; have := A.rel.inj _ _ _ _ _ g1 A.p2; omega
      · obtain ⟨_, us, t, e1, _, e3⟩ := A.rel.row ko b o _ g1 (at_rowOf ro)
        obtain ⟨v, a1, a2⟩ := e3 j _ hj
        have := Conc.v_inv a2
        subst this
        unfold World.cell?
        rw [show C.w.heap[(⟨b, o + 0 + j, none⟩ : Addr).block]? = _ from e1]
        simpa using a1
    | slOld g1 g2 =>
      rw [row_ver A.rel ro] at g1
      simp only [Option.some.injEq] at g1
      omega
def Post6 (w : World) (vl : List Int) (nv : Nat) (g : Nat → Int) (m : Nat) (e : Ending) (w' : World) : Prop :=
  ∃ u er, e = .returned (.tuple #[u, .int .i64 er]) ∧ Below w.heap.size w w' ∧ ((er = 10 ∧ u = .slice none 0 0 ∧ ∃ x : Fin m, ¬ okI nv g x.1) ∨ (er = 0 ∧ (∀ x : Fin m, okI nv g x.1) ∧ OutAt w' w.heap.size m (cellsP vl g (fl m m)) u))
theorem fl_mem {m : Nat} (x : Fin m) : x ∈ fl m m := by
  unfold fl
  rw [List.take_of_length_le (by simp)]
  exact List.mem_finRange x
theorem threes_y (w : World) (V : LV) (vl : List Int) (av : Option Addr) (g : Nat → Int) (nv cv bi oi li ci fr m : Nat) (hV : SlE 9 nv vl V) (hVw : VIn w V vl nv cv av) (hb : fr + 3 * m ≤ li) (hli : li ≤ ci) (h5 : li ≤ 5000)
    (hbi : m ≠ 0 → bi < w.heap.size) (hidx : ∀ j, j < 3 * m → w.cell? ⟨bi, oi + fr + j, none⟩ = some (.int .i64 (g j))) :
    CallsIn Fence.wide 5 Try.prog 6 #[.slice av nv cv, .slice (some ⟨bi, oi, none⟩) li ci, .int .i64 fr, .int .i64 ((3 * m : Nat) : Int)] w (Post6 w vl nv g m) := by
  have g1 : ¬ (fr : Int) < 0 := by omega
  have g2 : ¬ ((3 * m : Nat) : Int) < 0 := by omega
  have g3 : ((3 * m : Nat) : Int).tmod 3 = 0 := by rw [Int.tmod_eq_emod_of_nonneg (by omega)]; omega
  have g4 : ¬ (li : Int) < fr := by omega
  have g5 : ¬ (li : Int) - fr < ((3 * m : Nat) : Int) := by omega
  refine callsIn_of_wp_marks Try.func6 rfl trivial ?_ rfl
  simp only [Try.ntmps6, List.size_toArray, List.length_cons, List.length_nil, Nat.reduceAdd, Nat.reduceSub, Array.replicate_succ, Array.replicate_zero, List.push_toArray, List.append_toArray, List.nil_append, List.cons_append]
  gi_wp2_with (refine ⟨trivial, ?_⟩; gi_at_call 15; refine (chunk_in _ _ trivial rfl _ _ _ _).mono ?_; rintro e w' ⟨rfl, rfl⟩)
  · -- no room behind: no rounds
    have hst := inv_start w V vl nv cv av g m (.slice (some ⟨bi, oi, none⟩) (3 * m) 0) hVw
    obtain ⟨_, _, _, _, k4, k5, ks⟩ := W6_at w av nv cv (.slice (some ⟨bi, oi, none⟩) (3 * m) 0)
    refine wpIn_rangeFunc_ownG rfl (by omega) (gf := 20) (lb := #[.pointer (some ⟨w.heap.size + 4, 0, none⟩), .pointer (some ⟨w.heap.size + 5, 0, none⟩)]) rfl trivial (enters_of Try.func20 (by kernel_rfl) rfl)
      (chunk_stops Fence.wide 4 trivial rfl (by omega) (w.heap.size + 4) (w.heap.size + 5) m bi (oi) 0 (.slice (some ⟨bi, oi, none⟩) (3 * m) 0) (by omega) (W6 w av nv cv (.slice (some ⟨bi, oi, none⟩) (3 * m) 0)) (by omega) (by omega) (by unfold World.cell?; simp [k4]) (by unfold World.cell?; simp [k5]) (.inr ⟨rfl, by omega⟩))
      (fun h k => ⟨k.1.trans h.1, k.2.trans h.2⟩) ?kb2 (Below.refl _ _) (fun _ => rfl)
      (Inv w V vl nv g m) (InvX w nv g m) (inv_own w V vl nv g m _ (by show _ ≤ (W6 w av nv cv _).heap.size; omega)) (fun c => invx_own w nv g m _ c (by show _ ≤ (W6 w av nv cv _).heap.size; omega)) hst ?a12 ?assign2 ?body2 ?done2 ?stop2
    case kb2 =>
      intro W l o o' hl h1 h2 h3
      have hl' : w.heap.size + 6 ≤ l := by
        have : (W6 w av nv cv (.slice (some ⟨bi, oi, none⟩) (3 * m) 0)).heap.size ≤ l := hl
        omega
      exact ⟨World.putObj_heap_other (by omega), World.putObj_heap_other (by omega)⟩
    case assign2 =>
      intro l x W K hK
      gi_wp2
      exact hK
    case body2 =>
      intro l pre x W hI hlt
      exact round_ok w V vl nv g m hV bi (oi) (hbi (by have := x.2; omega)) (fun j hj => by omega) l _ _ pre x W _ ⟨rfl, rfl, rfl, rfl, rfl, rfl, rfl⟩ hI hlt (by omega)
    case done2 =>
      rintro D ys W hD rfl hI hK
      have hb' := hI.2.1
      have hs' := hI.2.2.1
      obtain ⟨u, c3, hout, c1, f1, c2, f2⟩ := inv_end hI (fl_len (Nat.le_refl _))
      have hok : ∀ x : Fin m, okI nv g x.1 := fun x => hI.2.2.2 x (fl_mem x)
      have fin : ∀ u, OutAt W w.heap.size m (cellsP vl g (fl m m)) u →
          ((W.setCell ⟨w.heap.size + 1, 0, none⟩ u).setCell ⟨w.heap.size + 1 + 1, 0, none⟩ (.int .i64 0)).heap[D]? = some (.deferred (some [])) ∧
          (((W.setCell ⟨w.heap.size + 1, 0, none⟩ u).setCell ⟨w.heap.size + 1 + 1, 0, none⟩ (.int .i64 0)).putObj D (.deferred none)).cell? ⟨w.heap.size + 1, 0, none⟩ = some u ∧
          (((W.setCell ⟨w.heap.size + 1, 0, none⟩ u).setCell ⟨w.heap.size + 1 + 1, 0, none⟩ (.int .i64 0)).putObj D (.deferred none)).cell? ⟨w.heap.size + 1 + 1, 0, none⟩ = some (.int .i64 0) ∧
          Below w.heap.size w (((W.setCell ⟨w.heap.size + 1, 0, none⟩ u).setCell ⟨w.heap.size + 1 + 1, 0, none⟩ (.int .i64 0)).putObj D (.deferred none)) ∧
          OutAt (((W.setCell ⟨w.heap.size + 1, 0, none⟩ u).setCell ⟨w.heap.size + 1 + 1, 0, none⟩ (.int .i64 0)).putObj D (.deferred none)) w.heap.size m (cellsP vl g (fl m m)) u := by
        intro u ho
        have hK2 := ((KeepsOthers.setCell W ⟨w.heap.size + 1, 0, none⟩ u).trans (KeepsOthers.setCell _ ⟨w.heap.size + 1 + 1, 0, none⟩ (.int .i64 0))).same D _ hK rfl
        have e2 : ((W.setCell ⟨w.heap.size + 1, 0, none⟩ u).setCell ⟨w.heap.size + 1 + 1, 0, none⟩ (.int .i64 0)).cell? ⟨w.heap.size + 1 + 1, 0, none⟩ = some (.int .i64 0) :=
          World.cell?_setCell_same (u := .int .i64 0) _ _ _ (by rw [set_far _ _ _ _ (by show w.heap.size + 1 ≠ w.heap.size + 1 + 1; omega)]; exact c2)
        have e1 : ((W.setCell ⟨w.heap.size + 1, 0, none⟩ u).setCell ⟨w.heap.size + 1 + 1, 0, none⟩ (.int .i64 0)).cell? ⟨w.heap.size + 1, 0, none⟩ = some u := by
          rw [set_far _ _ _ _ (by show w.heap.size + 1 + 1 ≠ w.heap.size + 1; omega)]
          exact World.cell?_setCell_same _ _ _ c1
        have hbel : Below w.heap.size w ((W.setCell ⟨w.heap.size + 1, 0, none⟩ u).setCell ⟨w.heap.size + 1 + 1, 0, none⟩ (.int .i64 0)) := (hb'.setCell (by simp) _).setCell (by simp; omega) _
        have keepc : ∀ {b o : Nat} {v : Value}, ((W.setCell ⟨w.heap.size + 1, 0, none⟩ u).setCell ⟨w.heap.size + 1 + 1, 0, none⟩ (.int .i64 0)).cell? ⟨b, o, none⟩ = some v → (((W.setCell ⟨w.heap.size + 1, 0, none⟩ u).setCell ⟨w.heap.size + 1 + 1, 0, none⟩ (.int .i64 0)).putObj D (.deferred none)).cell? ⟨b, o, none⟩ = some v := fun h =>
          cell_turn (grownBy_putObj' _ D (.deferred none)) (fun r e => by cases e; exact ⟨_, hK2, rfl⟩) h
        refine ⟨hK2, keepc e1, keepc e2, below_turn hbel (grownBy_putObj' _ D (.deferred none)) hbel.size (fun r e => by cases e; simp at hD; omega), ?_⟩
        rcases ho with ⟨h1, h2⟩ | ⟨hm0, b, o, c, o0, o1, o2, o3, o4, o5⟩
        · exact .inl ⟨h1, h2⟩
        · refine .inr ⟨hm0, b, o, c, o0, o1, o2, o3, o4, fun j z hj => keepc ?_⟩
          rw [set_far _ _ _ _ (by show w.heap.size + 1 + 1 ≠ b; omega), set_far _ _ _ _ (by show w.heap.size + 1 ≠ b; omega)]
          exact o5 j z hj
      obtain ⟨z1, z2, z3, z4, z5⟩ := fin u hout
      obtain ⟨hm0, rfl⟩ : m = 0 ∧ u = .slice none 0 0 := by
        rcases hout with h | ⟨h, _⟩
        · exact h
        · exact absurd (show m = 0 by omega) h
      · gi_wp2
        refine ⟨by simp, .inl ⟨_, _, rfl, run_takeDeferred z1, ?_⟩⟩
        refine ⟨.tuple #[_, .int .i64 0], ?_, ⟨_, _, rfl, z4, .inr ⟨rfl, hok, z5⟩⟩⟩
        simp [results, Try.results6, go_sem, Try.f6, z2, z3]
    case stop2 =>
      rintro D c pre W hD _ ⟨rfl, hx, c1, c2, hb'⟩ hK
      gi_wp2
      refine ⟨by simp, .inl ⟨_, _, rfl, run_takeDeferred hK, ?_⟩⟩
      have c1' := cell_turn (grownBy_putObj' W D (.deferred none)) (fun r e => by cases e; exact ⟨_, hK, rfl⟩) c1
      have c2' := cell_turn (grownBy_putObj' W D (.deferred none)) (fun r e => by cases e; exact ⟨_, hK, rfl⟩) c2
      refine ⟨.tuple #[.slice none 0 0, .int .i64 10], ?_, ?_⟩
      · simp [results, Try.results6, go_sem, Try.f6, c1', c2']
      · exact ⟨_, _, rfl, below_turn hb' (grownBy_putObj' W D (.deferred none)) hb'.size (fun r e => by cases e; simp at hD; omega), .inl ⟨rfl, rfl, hx⟩⟩
  · have hcf : ¬ ci = fr := by assumption
    have hst := inv_start w V vl nv cv av g m (.slice (some ⟨bi, oi + fr, none⟩) (3 * m) (ci - fr)) hVw
    obtain ⟨_, _, _, _, k4, k5, ks⟩ := W6_at w av nv cv (.slice (some ⟨bi, oi + fr, none⟩) (3 * m) (ci - fr))
    refine wpIn_rangeFunc_ownG rfl (by omega) (gf := 20) (lb := #[.pointer (some ⟨w.heap.size + 4, 0, none⟩), .pointer (some ⟨w.heap.size + 5, 0, none⟩)]) rfl trivial (enters_of Try.func20 (by kernel_rfl) rfl)
      (chunk_stops Fence.wide 4 trivial rfl (by omega) (w.heap.size + 4) (w.heap.size + 5) m bi (oi + fr) (ci - fr) (.slice (some ⟨bi, oi + fr, none⟩) (3 * m) (ci - fr)) (by omega) (W6 w av nv cv (.slice (some ⟨bi, oi + fr, none⟩) (3 * m) (ci - fr))) (by omega) (by omega) (by unfold World.cell?; simp [k4]) (by unfold World.cell?; simp [k5]) (.inr ⟨rfl, by omega⟩))
      (fun h k => ⟨k.1.trans h.1, k.2.trans h.2⟩) ?kb (Below.refl _ _) (fun _ => rfl)
      (Inv w V vl nv g m) (InvX w nv g m) (inv_own w V vl nv g m _ (by show _ ≤ (W6 w av nv cv _).heap.size; omega)) (fun c => invx_own w nv g m _ c (by show _ ≤ (W6 w av nv cv _).heap.size; omega)) hst ?a1 ?assign ?body ?done ?stop
    case kb =>
      intro W l o o' hl h1 h2 h3
      have hl' : w.heap.size + 6 ≤ l := by
        have : (W6 w av nv cv (.slice (some ⟨bi, oi + fr, none⟩) (3 * m) (ci - fr))).heap.size ≤ l := hl
        omega
      exact ⟨World.putObj_heap_other (by omega), World.putObj_heap_other (by omega)⟩
    case assign =>
      intro l x W K hK
      gi_wp2
      exact hK
    case body =>
      intro l pre x W hI hlt
      exact round_ok w V vl nv g m hV bi (oi + fr) (hbi (by have := x.2; omega)) hidx l _ _ pre x W _ ⟨rfl, rfl, rfl, rfl, rfl, rfl, rfl⟩ hI hlt (by omega)
    case done =>
      rintro D ys W hD rfl hI hK
      have hb' := hI.2.1
      have hs' := hI.2.2.1
      obtain ⟨u, c3, hout, c1, f1, c2, f2⟩ := inv_end hI (fl_len (Nat.le_refl _))
      have hok : ∀ x : Fin m, okI nv g x.1 := fun x => hI.2.2.2 x (fl_mem x)
      have fin : ∀ u, OutAt W w.heap.size m (cellsP vl g (fl m m)) u →
          ((W.setCell ⟨w.heap.size + 1, 0, none⟩ u).setCell ⟨w.heap.size + 1 + 1, 0, none⟩ (.int .i64 0)).heap[D]? = some (.deferred (some [])) ∧
          (((W.setCell ⟨w.heap.size + 1, 0, none⟩ u).setCell ⟨w.heap.size + 1 + 1, 0, none⟩ (.int .i64 0)).putObj D (.deferred none)).cell? ⟨w.heap.size + 1, 0, none⟩ = some u ∧
          (((W.setCell ⟨w.heap.size + 1, 0, none⟩ u).setCell ⟨w.heap.size + 1 + 1, 0, none⟩ (.int .i64 0)).putObj D (.deferred none)).cell? ⟨w.heap.size + 1 + 1, 0, none⟩ = some (.int .i64 0) ∧
          Below w.heap.size w (((W.setCell ⟨w.heap.size + 1, 0, none⟩ u).setCell ⟨w.heap.size + 1 + 1, 0, none⟩ (.int .i64 0)).putObj D (.deferred none)) ∧
          OutAt (((W.setCell ⟨w.heap.size + 1, 0, none⟩ u).setCell ⟨w.heap.size + 1 + 1, 0, none⟩ (.int .i64 0)).putObj D (.deferred none)) w.heap.size m (cellsP vl g (fl m m)) u := by
        intro u ho
        have hK2 := ((KeepsOthers.setCell W ⟨w.heap.size + 1, 0, none⟩ u).trans (KeepsOthers.setCell _ ⟨w.heap.size + 1 + 1, 0, none⟩ (.int .i64 0))).same D _ hK rfl
        have e2 : ((W.setCell ⟨w.heap.size + 1, 0, none⟩ u).setCell ⟨w.heap.size + 1 + 1, 0, none⟩ (.int .i64 0)).cell? ⟨w.heap.size + 1 + 1, 0, none⟩ = some (.int .i64 0) :=
          World.cell?_setCell_same (u := .int .i64 0) _ _ _ (by rw [set_far _ _ _ _ (by show w.heap.size + 1 ≠ w.heap.size + 1 + 1; omega)]; exact c2)
        have e1 : ((W.setCell ⟨w.heap.size + 1, 0, none⟩ u).setCell ⟨w.heap.size + 1 + 1, 0, none⟩ (.int .i64 0)).cell? ⟨w.heap.size + 1, 0, none⟩ = some u := by
          rw [set_far _ _ _ _ (by show w.heap.size + 1 + 1 ≠ w.heap.size + 1; omega)]
          exact World.cell?_setCell_same _ _ _ c1
        have hbel : Below w.heap.size w ((W.setCell ⟨w.heap.size + 1, 0, none⟩ u).setCell ⟨w.heap.size + 1 + 1, 0, none⟩ (.int .i64 0)) := (hb'.setCell (by simp) _).setCell (by simp; omega) _
        have keepc : ∀ {b o : Nat} {v : Value}, ((W.setCell ⟨w.heap.size + 1, 0, none⟩ u).setCell ⟨w.heap.size + 1 + 1, 0, none⟩ (.int .i64 0)).cell? ⟨b, o, none⟩ = some v → (((W.setCell ⟨w.heap.size + 1, 0, none⟩ u).setCell ⟨w.heap.size + 1 + 1, 0, none⟩ (.int .i64 0)).putObj D (.deferred none)).cell? ⟨b, o, none⟩ = some v := fun h =>
          cell_turn (grownBy_putObj' _ D (.deferred none)) (fun r e => by cases e; exact ⟨_, hK2, rfl⟩) h
        refine ⟨hK2, keepc e1, keepc e2, below_turn hbel (grownBy_putObj' _ D (.deferred none)) hbel.size (fun r e => by cases e; simp at hD; omega), ?_⟩
        rcases ho with ⟨h1, h2⟩ | ⟨hm0, b, o, c, o0, o1, o2, o3, o4, o5⟩
        · exact .inl ⟨h1, h2⟩
        · refine .inr ⟨hm0, b, o, c, o0, o1, o2, o3, o4, fun j z hj => keepc ?_⟩
          rw [set_far _ _ _ _ (by show w.heap.size + 1 + 1 ≠ b; omega), set_far _ _ _ _ (by show w.heap.size + 1 ≠ b; omega)]
          exact o5 j z hj
      obtain ⟨z1, z2, z3, z4, z5⟩ := fin u hout
      rcases hout with ⟨hm0, rfl⟩ | ⟨hm0, b, o, c, rfl, o1, o2, o3, o4, o5⟩
      all_goals
        gi_wp2
        refine ⟨by simp, .inl ⟨_, _, rfl, run_takeDeferred z1, ?_⟩⟩
        refine ⟨.tuple #[_, .int .i64 0], ?_, ⟨_, _, rfl, z4, .inr ⟨rfl, hok, z5⟩⟩⟩
        simp [results, Try.results6, go_sem, Try.f6, z2, z3]
    case stop =>
      rintro D c pre W hD _ ⟨rfl, hx, c1, c2, hb'⟩ hK
      gi_wp2
      refine ⟨by simp, .inl ⟨_, _, rfl, run_takeDeferred hK, ?_⟩⟩
      have c1' := cell_turn (grownBy_putObj' W D (.deferred none)) (fun r e => by cases e; exact ⟨_, hK, rfl⟩) c1
      have c2' := cell_turn (grownBy_putObj' W D (.deferred none)) (fun r e => by cases e; exact ⟨_, hK, rfl⟩) c2
      refine ⟨.tuple #[.slice none 0 0, .int .i64 10], ?_, ?_⟩
      · simp [results, Try.results6, go_sem, Try.f6, c1', c2']
      · exact ⟨_, _, rfl, below_turn hb' (grownBy_putObj' W D (.deferred none)) hb'.size (fun r e => by cases e; simp at hD; omega), .inl ⟨rfl, rfl, hx⟩⟩
end Go.Proofs.Yteeghebaankmlaa
