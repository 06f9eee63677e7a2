/- Things are put into a table: small walks. -/
import Derived.Test.YtichjheodohkaaaRA22
set_option linter.unusedSimpArgs false
set_option linter.unusedVariables false
set_option maxRecDepth 100000
set_option maxHeartbeats 4000000
namespace Go.Proofs.Ytichjheodohkaaa
open Go Go.RowKit
theorem set_at (w : World) (bm : Nat) (o : Obj) (h : bm < w.heap.size) : ({ w with heap := w.heap.setIfInBounds bm o } : World).heap[bm]? = some o := by
  simp [Array.getElem?_setIfInBounds, h]
theorem set_cell (w : World) (bm : Nat) (o : Obj) {d i : Nat} (hd : d ≠ bm) : ({ w with heap := w.heap.setIfInBounds bm o } : World).cell? ⟨d, i, none⟩ = w.cell? ⟨d, i, none⟩ := by
  unfold World.cell?
  simp [Array.getElem?_setIfInBounds_ne (Ne.symm hd)]
theorem set_At {w : World} {bm : Nat} {o : Obj} {b i : Nat} {l : List Int} (h : At w b i l) (hb : b ≠ bm) : At ({ w with heap := w.heap.setIfInBounds bm o } : World) b i l :=
  ⟨by simp; exact h.1, fun j hj => by rw [set_cell _ _ _ hb]; exact h.2 j hj⟩
theorem At.notmap {w : World} {b o bm : Nat} {l : List Int} {es : Array MapEntry} {k : Nat} (h : At w b o l) (hl : 0 < l.length) (hb : w.heap[bm]? = some (.map es k)) : b ≠ bm := by
  rintro rfl
  have h1 := h.2 0 hl
  unfold World.cell? at h1
  rw [show w.heap[(⟨b, o + 0, none⟩ : Addr).block]? = some (.map es k) from hb] at h1
  simp at h1
theorem put_a {bt bm b o n c : Nat} {l : List Int} {w : World} (h0 : 0 < n) (hn : n ≤ 1024) (hl : l.length = n * 9) (hc : n ≤ c) (hx : At w b o l) (ht : w.cell? ⟨bt, 0, none⟩ = some (.map (some bm))) (hb : w.heap[bm]? = some (.map #[] 0)) (hbt : bt < w.heap.size) (hne : bt ≠ bm) :
    Calls Try.prog 8 #[.pointer (some ⟨bt, 0, none⟩), .int .i64 1, .iface 22 (.slice (some ⟨b, o, none⟩) n c)] w fun e w' => e = .returned (.int .i64 0) ∧ (∃ b' o' c', n ≤ c' ∧ w'.heap[bm]? = some (one1 (.iface 22 (.slice (some ⟨b', o', none⟩) n c'))) ∧ At w' b' o' l ∧ w.heap.size ≤ b') ∧ But bm w w' := by
  have hbm : bm < w.heap.size := (Array.getElem?_eq_some_iff.1 hb).1
  go_enter Try.func8, Try.ntmps8
  go_wp2_with (go_at_call 23; refine (own_v h0 hn hl hc hx).mono ?_; rintro e w' ⟨⟨b', o', c', k1, rfl, k2, k3⟩, hw⟩; have hb' := (hw.block bm hbm).trans hb; have ht' := (cell_below hw (o := 0) hbt).trans ht; have hu := fun v => upd_a bm v w' hb')
  go_ret
  have hs : bm < w'.heap.size := Nat.lt_of_lt_of_le hbm hw.size
  exact ⟨rfl, ⟨b', o', c', k1, set_at _ _ _ hs, set_At k2 (by omega), k3⟩, (But.of hw).set _⟩
theorem put_b {bt bm b o n c : Nat} {l : List Int} {v : Value} {w : World} (h0 : 0 < n) (hn : n ≤ 4096) (hl : l.length = n * 1) (hc : n ≤ c) (hx : At w b o l) (ht : w.cell? ⟨bt, 0, none⟩ = some (.map (some bm))) (hb : w.heap[bm]? = some (one1 v)) (hbt : bt < w.heap.size) (hne : bt ≠ bm) :
    Calls Try.prog 8 #[.pointer (some ⟨bt, 0, none⟩), .int .i64 2, .iface 23 (.slice (some ⟨b, o, none⟩) n c)] w fun e w' => e = .returned (.int .i64 0) ∧ (∃ b' o' c', n ≤ c' ∧ w'.heap[bm]? = some (two v (.iface 23 (.slice (some ⟨b', o', none⟩) n c'))) ∧ At w' b' o' l ∧ w.heap.size ≤ b') ∧ But bm w w' := by
  have hbm : bm < w.heap.size := (Array.getElem?_eq_some_iff.1 hb).1
  go_enter Try.func8, Try.ntmps8
  go_wp2_with (go_at_call 23; refine (own_i h0 hn hl hc hx).mono ?_; rintro e w' ⟨⟨b', o', c', k1, rfl, k2, k3⟩, hw⟩; have hb' := (hw.block bm hbm).trans hb; have ht' := (cell_below hw (o := 0) hbt).trans ht; have hu := fun u => upd_b bm v u w' hb')
  go_ret
  have hs : bm < w'.heap.size := Nat.lt_of_lt_of_le hbm hw.size
  exact ⟨rfl, ⟨b', o', c', k1, set_at _ _ _ hs, set_At k2 (by omega), k3⟩, (But.of hw).set _⟩
end Go.Proofs.Ytichjheodohkaaa
