/- What a table does that is awake: small walks over the program's own form. -/
import Derived.Test.YtichjheodohkaaaProg
import Derived.Test.YtichjheodohkaaaChecked
import Derived.WalkKit
import Derived.WalkSpells
import Derived.WalkLawsBesides
import Derived.MapKept
import Derived.WideMake
set_option maxHeartbeats 4000000
set_option maxRecDepth 100000
set_option linter.unusedVariables false
set_option linter.unusedSimpArgs false
namespace Go.Proofs.Ytichjheodohkaaa
open Go Go.RowKit
theorem new_c (w : World) : Calls Try.prog 7 #[] w fun e w' => e = .returned (.pointer (some ⟨w.heap.size + 1, 0, none⟩)) ∧ w' = (w.alloc (.map #[] 0)).alloc (.cells #[.map (some w.heap.size)] 64) := by
  have hmm := @run_makeMap_plain Try.prog
  go_enter Try.func7, Try.ntmps7
  go_wp2
  go_ret
  exact ⟨rfl, rfl⟩
/-- The table's map, with one entry. -/
def one (v : Value) : Obj := .map #[{ key := .int .i64 5, val := v, born := 0 }] 1
theorem look_1 (bm : Nat) (v : Value) (w : World) (hb : w.heap[bm]? = some (one v)) : (Instr.lookup 62 (.map (some bm)) (.int .i64 5) false).run Try.prog w = .ok v w := by
  have hm : Try.prog.underlying 62 = some (.map 3 20) := by kernel_rfl
  have hk : Try.prog.underlying 3 = some (.int .i64) := by kernel_rfl
  have hc : (Instr.checkKey false 10000 3 (.int .i64 5)).run Try.prog w = .ok () w := MapKept.run_checkKey (k := .int .i64 5) hk (by simp [MapKept.IsKey]) false 9999
  have hf : Instr.findNow (.int .i64) (.int .i64 5) [({ key := .int .i64 5, val := v, born := 0 } : MapEntry)] 0 = some (some (0, v)) := rfl
  simp [Instr.lookup, run_underlying hm, MapKept.run_getObj_map (show w.heap[bm]? = some (.map #[{ key := .int .i64 5, val := v, born := 0 }] 1) from hb), hc, MapKept.run_findKey hk hf, Result.andThen]
theorem upd_1 (bm : Nat) (v : Value) (w : World) (hb : w.heap[bm]? = some (.map #[] 0)) : (Instr.mapUpdate 62 (.map (some bm)) (.int .i64 5) v).run Try.prog w = .ok () { w with heap := w.heap.setIfInBounds bm (one v) } := by
  have hm : Try.prog.underlying 62 = some (.map 3 20) := by kernel_rfl
  have hk : Try.prog.underlying 3 = some (.int .i64) := by kernel_rfl
  have hf : Instr.findNow (.int .i64) (.int .i64 5) ([] : List MapEntry) 0 = some none := rfl
  have hc : (Instr.checkKey false 10000 3 (.int .i64 5)).run Try.prog w = .ok () w := MapKept.run_checkKey (k := .int .i64 5) hk (by simp [MapKept.IsKey]) false 9999
  simp [Instr.mapUpdate, run_underlying hm, MapKept.run_getObj_map hb, hc, MapKept.run_findKey hk hf, MapKept.run_setObj_map _ hb, Result.andThen, one]
theorem ta23_22 (v : Value) (w : World) : (Instr.typeAssert (.iface 23 v) 20 22 true).run Try.prog w = .ok (.tuple #[.slice none 0 0, .bool false]) w := by kernel_rfl
theorem ta23 (v : Value) (w : World) : (Instr.typeAssert (.iface 23 v) 20 23 true).run Try.prog w = .ok (.tuple #[v, .bool true]) w := by kernel_rfl
theorem kind_c (bt bm : Nat) (x : Value) (w : World) (ht : w.cell? ⟨bt, 0, none⟩ = some (.map (some bm))) (hb : w.heap[bm]? = some (one (.iface 23 x))) : Calls Try.prog 22 #[.pointer (some ⟨bt, 0, none⟩), .int .i64 5] w fun e w' => e = .returned (.int .i64 2) ∧ w' = w := by
  have hl := look_1 bm (.iface 23 x) w hb
  have h1 := ta23_22
  have h2 := ta23
  go_enter Try.func22, Try.ntmps22
  go_wp2
  go_ret
  exact ⟨rfl, rfl⟩
theorem check_c (bt bm : Nat) (x : Value) (w : World) (ht : w.cell? ⟨bt, 0, none⟩ = some (.map (some bm))) (hb : w.heap[bm]? = some (one (.iface 23 x))) : Calls Try.prog 24 #[.pointer (some ⟨bt, 0, none⟩), .int .i64 5] w fun e w' => e = .returned (.int .i64 0) ∧ w' = w := by
  go_enter Try.func24, Try.ntmps24
  go_wp2_with (go_at_call 22; refine (kind_c bt bm x _ ht hb).mono ?_; rintro e w' ⟨rfl, rfl⟩)
  go_ret
  exact ⟨rfl, rfl⟩
theorem verts_c (bt bm : Nat) (x : Value) (w : World) (ht : w.cell? ⟨bt, 0, none⟩ = some (.map (some bm))) (hb : w.heap[bm]? = some (one (.iface 23 x))) : Calls Try.prog 9 #[.pointer (some ⟨bt, 0, none⟩), .int .i64 5] w fun e w' => e = .returned (.tuple #[.slice none 0 0, .int .i64 9]) ∧ w' = w := by
  have hl := look_1 bm (.iface 23 x) w hb
  have h1 := ta23_22
  have h2 := ta23
  go_enter Try.func9, Try.ntmps9
  go_wp2_with (go_at_call 24; refine (check_c bt bm x _ ht hb).mono ?_; rintro e w' ⟨rfl, rfl⟩)
  simp [bodyPost, results, Try.results9, go_sem, Try.f9]
/-- A slice of 1 and 2. -/
def twoAt (b o : Nat) (w : World) : Prop := w.cell? ⟨b, o, none⟩ = some (.int .i64 1) ∧ w.cell? ⟨b, o + 1, none⟩ = some (.int .i64 2) ∧ b < w.heap.size
def CloneC : Prop := ∀ (b o c : Nat) (w : World), 2 ≤ c → twoAt b o w → Calls Try.prog 26 #[.slice (some ⟨b, o, none⟩) 2 c] w fun e w' => (∃ b' o' c', 2 ≤ c' ∧ e = .returned (.slice (some ⟨b', o', none⟩) 2 c') ∧ twoAt b' o' w') ∧ Below w.heap.size w w'
theorem index_c (hC : CloneC) (bt bm b o c : Nat) (w : World) (h2 : 2 ≤ c) (hx : twoAt b o w) (ht : w.cell? ⟨bt, 0, none⟩ = some (.map (some bm))) (hb : w.heap[bm]? = some (one (.iface 23 (.slice (some ⟨b, o, none⟩) 2 c)))) :
    Calls Try.prog 10 #[.pointer (some ⟨bt, 0, none⟩), .int .i64 5] w fun e w' => (∃ b' o' c', e = .returned (.tuple #[.slice (some ⟨b', o', none⟩) 2 c', .int .i64 0])) ∧ Below w.heap.size w w' := by
  have hl := look_1 bm (.iface 23 (.slice (some ⟨b, o, none⟩) 2 c)) w hb
  have h1 := ta23_22
  have h2' := ta23
  go_enter Try.func10, Try.ntmps10
  go_wp2_with (first
    | (go_at_call 24; refine (check_c bt bm _ _ ht hb).mono ?_; rintro e w' ⟨rfl, rfl⟩)
    | (go_at_call 26; refine (hC b o c _ h2 hx).mono ?_; rintro e w' ⟨⟨b', o', c', _, rfl, _⟩, hw⟩))
  simp [bodyPost, results, Try.results10, go_sem, Try.f10]
  exact hw
theorem own_c (hC : CloneC) (b o c : Nat) (w : World) (h2 : 2 ≤ c) (hx : twoAt b o w) :
    Calls Try.prog 23 #[.iface 23 (.slice (some ⟨b, o, none⟩) 2 c)] w fun e w' => (∃ b' o' c', 2 ≤ c' ∧ e = .returned (.tuple #[.iface 23 (.slice (some ⟨b', o', none⟩) 2 c'), .int .i64 0]) ∧ twoAt b' o' w') ∧ Below w.heap.size w w' := by
  have h1 := ta23_22
  have h2' := ta23
  go_enter Try.func23, Try.ntmps23
  go_wp2_with (go_at_call 26; refine (hC b o c _ h2 hx).mono ?_; rintro e w' ⟨⟨b', o', c', k2, rfl, kx⟩, hw⟩)
  simp [bodyPost, results, Try.results23, go_sem, Try.f23]
  exact ⟨⟨b', o', c', k2, ⟨⟨rfl, rfl⟩, rfl⟩, kx⟩, hw⟩
theorem cell_below {N : Nat} {w w' : World} (h : Below N w w') {b o : Nat} (hb : b < N) : w'.cell? ⟨b, o, none⟩ = w.cell? ⟨b, o, none⟩ := by
  unfold World.cell?
  rw [show w'.heap[(⟨b, o, none⟩ : Addr).block]? = w.heap[b]? from h.block b hb]
theorem twoAt.below {N : Nat} {w w' : World} {b o : Nat} (hx : twoAt b o w) (h : Below N w w') (hb : b < N) : twoAt b o w' := by
  obtain ⟨h1, h2, h3⟩ := hx
  exact ⟨by rw [cell_below h hb]; exact h1, by rw [cell_below h hb]; exact h2, Nat.lt_of_lt_of_le h3 h.size⟩
theorem put_c (hC : CloneC) (bt bm b o c : Nat) (w : World) (h2 : 2 ≤ c) (hx : twoAt b o w) (ht : w.cell? ⟨bt, 0, none⟩ = some (.map (some bm))) (hb : w.heap[bm]? = some (.map #[] 0)) (hbt : bt < w.heap.size) (hne : bt ≠ bm) :
    Calls Try.prog 8 #[.pointer (some ⟨bt, 0, none⟩), .int .i64 5, .iface 23 (.slice (some ⟨b, o, none⟩) 2 c)] w fun e w' => e = .returned (.int .i64 0) ∧ (∃ b' o' c', 2 ≤ c' ∧ w'.heap[bm]? = some (one (.iface 23 (.slice (some ⟨b', o', none⟩) 2 c'))) ∧ twoAt b' o' w') ∧ w'.cell? ⟨bt, 0, none⟩ = some (.map (some bm)) ∧ (∀ N, N ≤ bm → N ≤ w.heap.size → Below N w w') := by
  have hbm : bm < w.heap.size := (Array.getElem?_eq_some_iff.1 hb).1
  go_enter Try.func8, Try.ntmps8
  go_wp2_with (go_at_call 23; refine (own_c hC b o c _ h2 hx).mono ?_; rintro e w' ⟨⟨b', o', c', k2, rfl, kx⟩, hw⟩; have hb' := (hw.block bm hbm).trans hb; have ht' := (cell_below hw (o := 0) hbt).trans ht; have hu := fun v => upd_1 bm v w' hb')
  go_ret
  have hne' : b' ≠ bm := by
    rintro rfl
    have h1 := kx.1
    unfold World.cell? at h1
    rw [show w'.heap[(⟨b', o', none⟩ : Addr).block]? = some (.map #[] 0) from hb'] at h1
    simp at h1
  have hcell : ∀ (v : Value) (d i : Nat), d ≠ bm → ({ w' with heap := w'.heap.setIfInBounds bm (one v) } : World).cell? ⟨d, i, none⟩ = w'.cell? ⟨d, i, none⟩ := fun v d i hd => by
    unfold World.cell?
    simp [Array.getElem?_setIfInBounds_ne (Ne.symm hd)]
  have hs : bm < w'.heap.size := Nat.lt_of_lt_of_le hbm hw.size
  refine ⟨rfl, ⟨b', o', c', k2, ?_, ?_⟩, ?_, fun N h1 h2 => ?_⟩
  · simp [Array.getElem?_setIfInBounds, hs]
  · refine ⟨?_, ?_, ?_⟩
    · rw [hcell _ _ _ hne']; exact kx.1
    · rw [hcell _ _ _ hne']; exact kx.2.1
    · simp; exact kx.2.2
  · rw [hcell _ _ _ hne]; exact ht'
  · refine (hw.mono h2).trans ⟨rfl, rfl, rfl, by simp, fun j hj => ?_⟩
    simp [Array.getElem?_setIfInBounds_ne (show bm ≠ j by omega)]
theorem awake_c (hC : CloneC) (w : World) : Calls Try.prog 6 #[] w fun e w' => e = .returned (.bool true) ∧ Below w.heap.size w w' := by
  let W : World := ((w.alloc (Obj.map #[] 0)).alloc (Obj.cells #[Value.map (some w.heap.size)] 64)).alloc (Obj.cells #[Value.int IntKind.i64 1, Value.int IntKind.i64 2] 3)
  have sz : W.heap.size = w.heap.size + 1 + 1 + 1 := by simp [W]
  have k1 : twoAt (w.heap.size + 1 + 1) 0 W := by
    refine ⟨?_, ?_, by omega⟩ <;> simp [W, go_sem]
  have k2 : W.cell? ⟨w.heap.size + 1, 0, none⟩ = some (.map (some w.heap.size)) := by simp [W, go_sem]
  have k3 : W.heap[w.heap.size]? = some (.map #[] 0) := by
    show (((w.alloc (Obj.map #[] 0)).alloc _).alloc _).heap[w.heap.size]? = _
    rw [Below.heap_alloc _ _ _ (by simp; omega), Below.heap_alloc _ _ _ (by simp)]
    show (w.heap.push (Obj.map #[] 0))[w.heap.size]? = _
    simp
  have k4 : Below w.heap.size w W := (((Below.refl _ _).alloc (Nat.le_refl _) _).alloc (by simp) _).alloc (by simp; omega) _
  go_enter Try.func6, Try.ntmps6
  go_wp2_with (first
    | (go_at_call 7; refine (new_c _).mono ?_; rintro e w1 ⟨rfl, rfl⟩)
    | (go_at_call 8; refine (put_c hC (w.heap.size + 1) w.heap.size (w.heap.size + 1 + 1) 0 2 W (Nat.le_refl _) k1 k2 k3 (by omega) (by omega)).mono ?_; rintro e w2 ⟨rfl, ⟨b', o', c', kc, p1, p2⟩, p3, p4⟩; have q4 := k4.trans (p4 w.heap.size (Nat.le_refl _) (by omega)))
    | (go_at_call 9; refine (verts_c _ _ _ _ p3 p1).mono ?_; rintro e w3 ⟨rfl, rfl⟩)
    | (go_at_call 10; refine (index_c hC _ _ _ _ _ _ kc p2 p3 p1).mono ?_; rintro e w4 ⟨⟨b2, o2, c2, rfl⟩, p5⟩; have q5 := q4.trans (p5.mono (Nat.le_trans (by omega) q4.size)); have p6 := (p5.block w.heap.size (Nat.lt_of_lt_of_le (by omega) (p4 w.heap.size (Nat.le_refl _) (by omega)).size)).trans p1; have p7 := (cell_below p5 (b := w.heap.size + 1) (o := 0) (Nat.lt_of_lt_of_le (by omega) (p4 w.heap.size (Nat.le_refl _) (by omega)).size)).trans p3)
    | (go_at_call 22; refine (kind_c _ _ _ _ p7 p6).mono ?_; rintro e w5 ⟨rfl, rfl⟩))
  go_ret
  exact ⟨rfl, q5⟩
end Go.Proofs.Ytichjheodohkaaa
