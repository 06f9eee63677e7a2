/- What a table of two things does: small walks over the program's own form. -/
import Derived.Test.YtichjheodohkaaaQA22
set_option linter.unusedSimpArgs false
set_option linter.unusedVariables false
set_option maxRecDepth 100000
set_option maxHeartbeats 4000000
namespace Go.Proofs.Ytichjheodohkaaa
open Go Go.RowKit
def e1 (v : Value) : MapEntry := { key := .int .i64 1, val := v, born := 0 }
def e2 (v : Value) : MapEntry := { key := .int .i64 2, val := v, born := 1 }
def one1 (v : Value) : Obj := .map #[e1 v] 1
def two (v u : Value) : Obj := .map #[e1 v, e2 u] 2
section
variable (bm : Nat) (v u : Value) (w : World)
theorem look_a (hb : w.heap[bm]? = some (two v u)) : (Instr.lookup 62 (.map (some bm)) (.int .i64 1) false).run Try.prog w = .ok v w := by
  have hm : Try.prog.underlying 62 = some (.map 3 20) := by kernel_rfl
  have hk : Try.prog.underlying 3 = some (.int .i64) := by kernel_rfl
  have hc : (Instr.checkKey false 10000 3 (.int .i64 1)).run Try.prog w = .ok () w := MapKept.run_checkKey (k := .int .i64 1) hk (by simp [MapKept.IsKey]) false 9999
  have hf : Instr.findNow (.int .i64) (.int .i64 1) [e1 v, e2 u] 0 = some (some (0, v)) := rfl
  simp [Instr.lookup, run_underlying hm, MapKept.run_getObj_map (show w.heap[bm]? = some (.map #[e1 v, e2 u] 2) from hb), hc, MapKept.run_findKey hk hf, Result.andThen]
theorem look_b (hb : w.heap[bm]? = some (two v u)) : (Instr.lookup 62 (.map (some bm)) (.int .i64 2) false).run Try.prog w = .ok u w := by
  have hm : Try.prog.underlying 62 = some (.map 3 20) := by kernel_rfl
  have hk : Try.prog.underlying 3 = some (.int .i64) := by kernel_rfl
  have hc : (Instr.checkKey false 10000 3 (.int .i64 2)).run Try.prog w = .ok () w := MapKept.run_checkKey (k := .int .i64 2) hk (by simp [MapKept.IsKey]) false 9999
  have hf : Instr.findNow (.int .i64) (.int .i64 2) [e1 v, e2 u] 0 = some (some (1, u)) := rfl
  simp [Instr.lookup, run_underlying hm, MapKept.run_getObj_map (show w.heap[bm]? = some (.map #[e1 v, e2 u] 2) from hb), hc, MapKept.run_findKey hk hf, Result.andThen]
theorem upd_a (hb : w.heap[bm]? = some (.map #[] 0)) : (Instr.mapUpdate 62 (.map (some bm)) (.int .i64 1) v).run Try.prog w = .ok () { w with heap := w.heap.setIfInBounds bm (one1 v) } := by
  have hm : Try.prog.underlying 62 = some (.map 3 20) := by kernel_rfl
  have hk : Try.prog.underlying 3 = some (.int .i64) := by kernel_rfl
  have hf : Instr.findNow (.int .i64) (.int .i64 1) ([] : List MapEntry) 0 = some none := rfl
  have hc : (Instr.checkKey false 10000 3 (.int .i64 1)).run Try.prog w = .ok () w := MapKept.run_checkKey (k := .int .i64 1) hk (by simp [MapKept.IsKey]) false 9999
  simp [Instr.mapUpdate, run_underlying hm, MapKept.run_getObj_map hb, hc, MapKept.run_findKey hk hf, MapKept.run_setObj_map _ hb, Result.andThen, one1, e1]
theorem upd_b (hb : w.heap[bm]? = some (one1 v)) : (Instr.mapUpdate 62 (.map (some bm)) (.int .i64 2) u).run Try.prog w = .ok () { w with heap := w.heap.setIfInBounds bm (two v u) } := by
  have hm : Try.prog.underlying 62 = some (.map 3 20) := by kernel_rfl
  have hk : Try.prog.underlying 3 = some (.int .i64) := by kernel_rfl
  have hf : Instr.findNow (.int .i64) (.int .i64 2) [e1 v] 0 = some none := rfl
  have hc : (Instr.checkKey false 10000 3 (.int .i64 2)).run Try.prog w = .ok () w := MapKept.run_checkKey (k := .int .i64 2) hk (by simp [MapKept.IsKey]) false 9999
  have hb' : w.heap[bm]? = some (.map #[e1 v] 1) := hb
  simp [Instr.mapUpdate, run_underlying hm, MapKept.run_getObj_map hb', hc, MapKept.run_findKey hk hf, MapKept.run_setObj_map _ hb', Result.andThen, two, e2]
end
theorem ta22 (v : Value) (w : World) : (Instr.typeAssert (.iface 22 v) 20 22 true).run Try.prog w = .ok (.tuple #[v, .bool true]) w := by kernel_rfl
/-- A table with two things. -/
structure Tab (w : World) (bt bm : Nat) (v u : Value) : Prop where
  t : w.cell? ⟨bt, 0, none⟩ = some (.map (some bm))
  m : w.heap[bm]? = some (two v u)
  lt : bt < w.heap.size
theorem Tab.lm {w : World} {bt bm : Nat} {v u : Value} (h : Tab w bt bm v u) : bm < w.heap.size := (Array.getElem?_eq_some_iff.1 h.m).1
theorem Tab.below {w w' : World} {bt bm : Nat} {v u : Value} (h : Tab w bt bm v u) (hb : Below w.heap.size w w') : Tab w' bt bm v u :=
  ⟨(cell_below hb h.lt).trans h.t, (hb.block bm h.lm).trans h.m, Nat.lt_of_lt_of_le h.lt hb.size⟩
section
variable {bt bm : Nat} {x y : Value} {w : World} (T : Tab w bt bm (.iface 22 x) (.iface 23 y))
include T
theorem kind_a : Calls Try.prog 22 #[.pointer (some ⟨bt, 0, none⟩), .int .i64 1] w fun e w' => e = .returned (.int .i64 1) ∧ w' = w := by
  have ht := T.t
  have hl := look_a bm _ _ w T.m
  have h2 := ta22
  go_enter Try.func22, Try.ntmps22
  go_wp2
  go_ret
  exact ⟨rfl, rfl⟩
theorem kind_b : Calls Try.prog 22 #[.pointer (some ⟨bt, 0, none⟩), .int .i64 2] w fun e w' => e = .returned (.int .i64 2) ∧ w' = w := by
  have ht := T.t
  have hl := look_b bm _ _ w T.m
  have h1 := ta23_22
  have h2 := ta23
  go_enter Try.func22, Try.ntmps22
  go_wp2
  go_ret
  exact ⟨rfl, rfl⟩
theorem check_a : Calls Try.prog 24 #[.pointer (some ⟨bt, 0, none⟩), .int .i64 1] w fun e w' => e = .returned (.int .i64 0) ∧ w' = w := by
  go_enter Try.func24, Try.ntmps24
  go_wp2_with (go_at_call 22; refine (kind_a T).mono ?_; rintro e w' ⟨rfl, rfl⟩)
  go_ret
  exact ⟨rfl, rfl⟩
theorem check_b : Calls Try.prog 24 #[.pointer (some ⟨bt, 0, none⟩), .int .i64 2] w fun e w' => e = .returned (.int .i64 0) ∧ w' = w := by
  go_enter Try.func24, Try.ntmps24
  go_wp2_with (go_at_call 22; refine (kind_b T).mono ?_; rintro e w' ⟨rfl, rfl⟩)
  go_ret
  exact ⟨rfl, rfl⟩
end
theorem verts_c2 {bt bm b o n c : Nat} {y : Value} {l : List Int} {w : World} (T : Tab w bt bm (.iface 22 (.slice (some ⟨b, o, none⟩) n c)) (.iface 23 y)) (h0 : 0 < n) (hn : n ≤ 4096) (hl : l.length = n * 9) (hc : n ≤ c) (hx : At w b o l) :
    Calls Try.prog 9 #[.pointer (some ⟨bt, 0, none⟩), .int .i64 1] w fun e w' => (∃ b' o' c', n ≤ c' ∧ e = .returned (.tuple #[.slice (some ⟨b', o', none⟩) n c', .int .i64 0]) ∧ At w' b' o' l ∧ w.heap.size ≤ b' ∧ ∀ i, w'.frozen? ⟨b', i, none⟩ = false) ∧ Below w.heap.size w w' := by
  have ht := T.t
  have hlk := look_a bm _ _ w T.m
  have h2 := ta22
  go_enter Try.func9, Try.ntmps9
  go_wp2_with (first
    | (go_at_call 24; refine (check_a T).mono ?_; rintro e w' ⟨rfl, rfl⟩)
    | (go_at_call 25; refine (cloneV_c n b o c l _ h0 hn hl hc hx).mono ?_; rintro e w' ⟨⟨b', o', c', k1, rfl, k2, k3⟩, hw⟩))
  simp [bodyPost, results, Try.results9, go_sem, Try.f9]
  exact ⟨⟨b', o', c', k1, ⟨⟨rfl, rfl⟩, rfl⟩, k2, k3⟩, hw⟩
theorem index_c2 {bt bm b o n c : Nat} {x : Value} {l : List Int} {w : World} (T : Tab w bt bm (.iface 22 x) (.iface 23 (.slice (some ⟨b, o, none⟩) n c))) (h0 : 0 < n) (hn : n ≤ 4096) (hl : l.length = n * 1) (hc : n ≤ c) (hx : At w b o l) :
    Calls Try.prog 10 #[.pointer (some ⟨bt, 0, none⟩), .int .i64 2] w fun e w' => (∃ b' o' c', n ≤ c' ∧ e = .returned (.tuple #[.slice (some ⟨b', o', none⟩) n c', .int .i64 0]) ∧ At w' b' o' l ∧ w.heap.size ≤ b' ∧ ∀ i, w'.frozen? ⟨b', i, none⟩ = false) ∧ Below w.heap.size w w' := by
  have ht := T.t
  have hlk := look_b bm _ _ w T.m
  have h1 := ta23_22
  have h2 := ta23
  go_enter Try.func10, Try.ntmps10
  go_wp2_with (first
    | (go_at_call 24; refine (check_b T).mono ?_; rintro e w' ⟨rfl, rfl⟩)
    | (go_at_call 26; refine (cloneI_c n b o c l _ h0 hn hl hc hx).mono ?_; rintro e w' ⟨⟨b', o', c', k1, rfl, k2, k3⟩, hw⟩))
  simp [bodyPost, results, Try.results10, go_sem, Try.f10]
  exact ⟨⟨b', o', c', k1, ⟨⟨rfl, rfl⟩, rfl⟩, k2, k3⟩, hw⟩
theorem own_v {b o n c : Nat} {l : List Int} {w : World} (h0 : 0 < n) (hn : n ≤ 1024) (hl : l.length = n * 9) (hc : n ≤ c) (hx : At w b o l) :
    Calls Try.prog 23 #[.iface 22 (.slice (some ⟨b, o, none⟩) n c)] w fun e w' => (∃ b' o' c', n ≤ c' ∧ e = .returned (.tuple #[.iface 22 (.slice (some ⟨b', o', none⟩) n c'), .int .i64 0]) ∧ At w' b' o' l ∧ w.heap.size ≤ b') ∧ Below w.heap.size w w' := by
  have h2 := ta22
  have g : ¬ 1024 < (n : Int) := by omega
  go_enter Try.func23, Try.ntmps23
  go_wp2_with (go_at_call 25; refine (cloneV_c n b o c l _ h0 (by omega) hl hc hx).mono ?_; rintro e w' ⟨⟨b', o', c', k1, rfl, k2, k3⟩, hw⟩)
  simp [bodyPost, results, Try.results23, go_sem, Try.f23]
  exact ⟨⟨b', o', c', k1, ⟨⟨rfl, rfl⟩, rfl⟩, k2, k3.1⟩, hw⟩
theorem own_i {b o n c : Nat} {l : List Int} {w : World} (h0 : 0 < n) (hn : n ≤ 4096) (hl : l.length = n * 1) (hc : n ≤ c) (hx : At w b o l) :
    Calls Try.prog 23 #[.iface 23 (.slice (some ⟨b, o, none⟩) n c)] w fun e w' => (∃ b' o' c', n ≤ c' ∧ e = .returned (.tuple #[.iface 23 (.slice (some ⟨b', o', none⟩) n c'), .int .i64 0]) ∧ At w' b' o' l ∧ w.heap.size ≤ b') ∧ Below w.heap.size w w' := by
  have h1 := ta23_22
  have h2 := ta23
  have g : ¬ 4096 < (n : Int) := by omega
  go_enter Try.func23, Try.ntmps23
  go_wp2_with (go_at_call 26; refine (cloneI_c n b o c l _ h0 (by omega) hl hc hx).mono ?_; rintro e w' ⟨⟨b', o', c', k1, rfl, k2, k3⟩, hw⟩)
  simp [bodyPost, results, Try.results23, go_sem, Try.f23]
  exact ⟨⟨b', o', c', k1, ⟨⟨rfl, rfl⟩, rfl⟩, k2, k3.1⟩, hw⟩
end Go.Proofs.Ytichjheodohkaaa
