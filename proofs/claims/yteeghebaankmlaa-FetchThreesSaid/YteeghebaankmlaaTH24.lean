/- Vertices, three by three: the walk, of no indices, and of what is out of range. -/
import Derived.Test.YteeghebaankmlaaTD24
set_option linter.unusedSimpArgs false
set_option linter.unusedVariables false
set_option maxRecDepth 100000
set_option maxHeartbeats 4000000
namespace Go.Proofs.Yteeghebaankmlaa
open Go Go.RowKit Go.Shelf
attribute [local go_sem] Oper.semAt_some
theorem threes_nil (w : World) (V : LV) (vl : List Int) (av : Option Addr) (g : Nat → Int) (nv cv : Nat) (hV : SlE 9 nv vl V) (hVw : VIn w V vl nv cv av) :
    CallsIn Fence.wide 5 Try.prog 6 #[.slice av nv cv, .slice none 0 0, .int .i64 0, .int .i64 0] w (Post6 w vl nv g 0) := by
  refine callsIn_of_wp_marks Try.func6 rfl trivial ?_ rfl
  simp only [Try.ntmps6, List.size_toArray, List.length_cons, List.length_nil, Nat.reduceAdd, Nat.reduceSub, Array.replicate_succ, Array.replicate_zero, List.push_toArray, List.append_toArray, List.nil_append, List.cons_append]
  gi_wp2_with (refine ⟨trivial, ?_⟩; gi_at_call 15; refine (chunk_in _ _ trivial rfl _ _ _ _).mono ?_; rintro e w' ⟨rfl, rfl⟩)
  have hst := inv_start w V vl nv cv av g 0 (.slice none 0 0) hVw
  obtain ⟨_, _, _, _, k4, k5, ks⟩ := W6_at w av nv cv (.slice none 0 0)
  refine wpIn_rangeFunc_ownG rfl (by omega) (gf := 20) (lb := #[.pointer (some ⟨w.heap.size + 4, 0, none⟩), .pointer (some ⟨w.heap.size + 5, 0, none⟩)]) rfl trivial (enters_of Try.func20 (by kernel_rfl) rfl)
    (chunk_stops Fence.wide 4 trivial rfl (by omega) (w.heap.size + 4) (w.heap.size + 5) 0 0 (0) 0 (.slice none 0 0) (by omega) (W6 w av nv cv (.slice none 0 0)) (by omega) (by omega) (by unfold World.cell?; simp [k4]) (by unfold World.cell?; simp [k5]) (.inl ⟨rfl, rfl⟩))
    (fun h k => ⟨k.1.trans h.1, k.2.trans h.2⟩) ?kb2 (Below.refl _ _) (fun _ => rfl)
    (Inv w V vl nv g 0) (InvX w nv g 0) (inv_own w V vl nv g 0 _ (by show _ ≤ (W6 w av nv cv _).heap.size; omega)) (fun c => invx_own w nv g 0 _ c (by show _ ≤ (W6 w av nv cv _).heap.size; omega)) hst ?a12 ?assign2 ?body2 ?done2 ?stop2
  case kb2 =>
    intro W l o o' hl h1 h2 h3
    have hl' : w.heap.size + 6 ≤ l := by
      have : (W6 w av nv cv (.slice none 0 0)).heap.size ≤ l := hl
      omega
    exact ⟨World.putObj_heap_other (by omega), World.putObj_heap_other (by omega)⟩
  case assign2 =>
    intro l x W K hK
    gi_wp2
    exact hK
  case body2 =>
    intro l pre x W hI hlt
    exact absurd hlt (Nat.not_lt_zero _)
  case done2 =>
    rintro D ys W hD rfl hI hK
    have hb' := hI.2.1
    have hs' := hI.2.2.1
    obtain ⟨u, c3, hout, c1, f1, c2, f2⟩ := inv_end hI (fl_len (Nat.le_refl _))
    have hok : ∀ x : Fin 0, okI nv g x.1 := fun x => hI.2.2.2 x (fl_mem x)
    have fin : ∀ u, OutAt W w.heap.size 0 (cellsP vl g (fl 0 0)) u →
        ((W.setCell ⟨w.heap.size + 1, 0, none⟩ u).setCell ⟨w.heap.size + 1 + 1, 0, none⟩ (.int .i64 0)).heap[D]? = some (.deferred (some [])) ∧
        (((W.setCell ⟨w.heap.size + 1, 0, none⟩ u).setCell ⟨w.heap.size + 1 + 1, 0, none⟩ (.int .i64 0)).putObj D (.deferred none)).cell? ⟨w.heap.size + 1, 0, none⟩ = some u ∧
        (((W.setCell ⟨w.heap.size + 1, 0, none⟩ u).setCell ⟨w.heap.size + 1 + 1, 0, none⟩ (.int .i64 0)).putObj D (.deferred none)).cell? ⟨w.heap.size + 1 + 1, 0, none⟩ = some (.int .i64 0) ∧
        Below w.heap.size w (((W.setCell ⟨w.heap.size + 1, 0, none⟩ u).setCell ⟨w.heap.size + 1 + 1, 0, none⟩ (.int .i64 0)).putObj D (.deferred none)) ∧
        OutAt (((W.setCell ⟨w.heap.size + 1, 0, none⟩ u).setCell ⟨w.heap.size + 1 + 1, 0, none⟩ (.int .i64 0)).putObj D (.deferred none)) w.heap.size 0 (cellsP vl g (fl 0 0)) u := by
      intro u ho
      have hK2 := ((KeepsOthers.setCell W ⟨w.heap.size + 1, 0, none⟩ u).trans (KeepsOthers.setCell _ ⟨w.heap.size + 1 + 1, 0, none⟩ (.int .i64 0))).same D _ hK rfl
      have e2 : ((W.setCell ⟨w.heap.size + 1, 0, none⟩ u).setCell ⟨w.heap.size + 1 + 1, 0, none⟩ (.int .i64 0)).cell? ⟨w.heap.size + 1 + 1, 0, none⟩ = some (.int .i64 0) :=
        World.cell?_setCell_same (u := .int .i64 0) _ _ _ (by rw [set_far _ _ _ _ (by show w.heap.size + 1 ≠ w.heap.size + 1 + 1; omega)]; exact c2)
      have e1 : ((W.setCell ⟨w.heap.size + 1, 0, none⟩ u).setCell ⟨w.heap.size + 1 + 1, 0, none⟩ (.int .i64 0)).cell? ⟨w.heap.size + 1, 0, none⟩ = some u := by
        rw [set_far _ _ _ _ (by show w.heap.size + 1 + 1 ≠ w.heap.size + 1; omega)]
        exact World.cell?_setCell_same _ _ _ c1
      have hbel : Below w.heap.size w ((W.setCell ⟨w.heap.size + 1, 0, none⟩ u).setCell ⟨w.heap.size + 1 + 1, 0, none⟩ (.int .i64 0)) := (hb'.setCell (by simp) _).setCell (by simp; omega) _
      have keepc : ∀ {b o : Nat} {v : Value}, ((W.setCell ⟨w.heap.size + 1, 0, none⟩ u).setCell ⟨w.heap.size + 1 + 1, 0, none⟩ (.int .i64 0)).cell? ⟨b, o, none⟩ = some v → (((W.setCell ⟨w.heap.size + 1, 0, none⟩ u).setCell ⟨w.heap.size + 1 + 1, 0, none⟩ (.int .i64 0)).putObj D (.deferred none)).cell? ⟨b, o, none⟩ = some v := fun h =>
        cell_turn (grownBy_putObj' _ D (.deferred none)) (fun r e => by cases e; exact ⟨_, hK2, rfl⟩) h
      refine ⟨hK2, keepc e1, keepc e2, below_turn hbel (grownBy_putObj' _ D (.deferred none)) hbel.size (fun r e => by cases e; simp at hD; omega), ?_⟩
      rcases ho with ⟨h1, h2⟩ | ⟨hm0, b, o, c, o0, o1, o2, o3, o4, o5⟩
      · exact .inl ⟨h1, h2⟩
      · refine .inr ⟨hm0, b, o, c, o0, o1, o2, o3, o4, fun j z hj => keepc ?_⟩
        rw [set_far _ _ _ _ (by show w.heap.size + 1 + 1 ≠ b; omega), set_far _ _ _ _ (by show w.heap.size + 1 ≠ b; omega)]
        exact o5 j z hj
    obtain ⟨z1, z2, z3, z4, z5⟩ := fin u hout
    obtain ⟨hm0, rfl⟩ : (0 : Nat) = 0 ∧ u = .slice none 0 0 := by
      rcases hout with h | ⟨h, _⟩
      · exact h
      · exact absurd rfl h
    · gi_wp2
      refine ⟨by simp, .inl ⟨_, _, rfl, run_takeDeferred z1, ?_⟩⟩
      refine ⟨.tuple #[_, .int .i64 0], ?_, ⟨_, _, rfl, z4, .inr ⟨rfl, hok, z5⟩⟩⟩
      simp [results, Try.results6, go_sem, Try.f6, z2, z3]
  case stop2 =>
    rintro D c pre W hD _ ⟨rfl, hx, c1, c2, hb'⟩ hK
    gi_wp2
    refine ⟨by simp, .inl ⟨_, _, rfl, run_takeDeferred hK, ?_⟩⟩
    have c1' := cell_turn (grownBy_putObj' W D (.deferred none)) (fun r e => by cases e; exact ⟨_, hK, rfl⟩) c1
    have c2' := cell_turn (grownBy_putObj' W D (.deferred none)) (fun r e => by cases e; exact ⟨_, hK, rfl⟩) c2
    refine ⟨.tuple #[.slice none 0 0, .int .i64 10], ?_, ?_⟩
    · simp [results, Try.results6, go_sem, Try.f6, c1', c2']
    · exact ⟨_, _, rfl, below_turn hb' (grownBy_putObj' W D (.deferred none)) hb'.size (fun r e => by cases e; simp at hD; omega), .inl ⟨rfl, rfl, hx⟩⟩
/-- What is out of range. -/
def PostE (w : World) (er : Int) (e : Ending) (w' : World) : Prop := e = .returned (.tuple #[.slice none 0 0, .int .i64 er]) ∧ Below w.heap.size w w'
theorem threes_e3 (w : World) (av ai : Option Addr) (nv cv li ci : Nat) (fr cnt : Int) (h : fr < 0 ∨ (0 ≤ fr ∧ cnt < 0) ∨ (0 ≤ fr ∧ 0 ≤ cnt ∧ cnt.tmod 3 ≠ 0)) :
    CallsIn Fence.wide 5 Try.prog 6 #[.slice av nv cv, .slice ai li ci, .int .i64 fr, .int .i64 cnt] w (PostE w 3) := by
  refine callsIn_of_wp_marks Try.func6 rfl trivial ?_ rfl
  simp only [Try.ntmps6, List.size_toArray, List.length_cons, List.length_nil, Nat.reduceAdd, Nat.reduceSub, Array.replicate_succ, Array.replicate_zero, List.push_toArray, List.append_toArray, List.nil_append, List.cons_append]
  rcases h with h1 | ⟨h1, h2⟩ | ⟨h1, h2, h3⟩
  · gi_wp2
    all_goals
      (show LeavesInM _ _ _ _ _ _ [] .returning _
       refine ⟨.tuple #[.slice none 0 0, .int .i64 3], ?_, rfl, ?_⟩
       · simp [results, Try.results6, go_sem, Try.f6]
       · exact (((Below.refl _ w).alloc (Nat.le_refl _) _).alloc (by simp) _).alloc (by simp; omega) _)
  · have h1' : ¬ fr < 0 := by omega
    gi_wp2
    all_goals
      (show LeavesInM _ _ _ _ _ _ [] .returning _
       refine ⟨.tuple #[.slice none 0 0, .int .i64 3], ?_, rfl, ?_⟩
       · simp [results, Try.results6, go_sem, Try.f6]
       · exact (((Below.refl _ w).alloc (Nat.le_refl _) _).alloc (by simp) _).alloc (by simp; omega) _)
  · have h1' : ¬ fr < 0 := by omega
    have h2' : ¬ cnt < 0 := by omega
    have h3' : ¬ cnt % 3 = 0 := by rw [Int.tmod_eq_emod_of_nonneg h2] at h3; exact h3
    gi_wp2
    all_goals
      (show LeavesInM _ _ _ _ _ _ [] .returning _
       refine ⟨.tuple #[.slice none 0 0, .int .i64 3], ?_, rfl, ?_⟩
       · simp [results, Try.results6, go_sem, Try.f6]
       · exact (((Below.refl _ w).alloc (Nat.le_refl _) _).alloc (by simp) _).alloc (by simp; omega) _)
theorem threes_e10 (w : World) (av ai : Option Addr) (nv cv li ci : Nat) (fr cnt : Int) (h0 : 0 ≤ fr) (h1 : 0 ≤ cnt) (h2 : cnt.tmod 3 = 0) (hl : li ≤ 5000) (h : (li : Int) < fr ∨ (fr ≤ li ∧ (li : Int) - fr < cnt)) :
    CallsIn Fence.wide 5 Try.prog 6 #[.slice av nv cv, .slice ai li ci, .int .i64 fr, .int .i64 cnt] w (PostE w 10) := by
  have h1' : ¬ fr < 0 := by omega
  have h2' : ¬ cnt < 0 := by omega
  refine callsIn_of_wp_marks Try.func6 rfl trivial ?_ rfl
  simp only [Try.ntmps6, List.size_toArray, List.length_cons, List.length_nil, Nat.reduceAdd, Nat.reduceSub, Array.replicate_succ, Array.replicate_zero, List.push_toArray, List.append_toArray, List.nil_append, List.cons_append]
  rcases h with h3 | ⟨h3, h4⟩
  · gi_wp2
    all_goals
      (show LeavesInM _ _ _ _ _ _ [] .returning _
       refine ⟨.tuple #[.slice none 0 0, .int .i64 10], ?_, rfl, ?_⟩
       · simp [results, Try.results6, go_sem, Try.f6]
       · exact (((Below.refl _ w).alloc (Nat.le_refl _) _).alloc (by simp) _).alloc (by simp; omega) _)
  · have h3' : ¬ (li : Int) < fr := by omega
    gi_wp2
    all_goals
      (show LeavesInM _ _ _ _ _ _ [] .returning _
       refine ⟨.tuple #[.slice none 0 0, .int .i64 10], ?_, rfl, ?_⟩
       · simp [results, Try.results6, go_sem, Try.f6]
       · exact (((Below.refl _ w).alloc (Nat.le_refl _) _).alloc (by simp) _).alloc (by simp; omega) _)
end Go.Proofs.Yteeghebaankmlaa
