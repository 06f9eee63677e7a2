/- What was put is a thing of its own: what stands between the steps. -/
import Derived.Test.YtichjheodohkaaaSA22
import Derived.RangeFuncBox
import Derived.OwnWalkIn
import Derived.TacticsInMore
import Derived.LoopNIn
import Derived.LoopIn
set_option linter.unusedSimpArgs false
set_option linter.unusedVariables false
set_option maxRecDepth 100000
set_option maxHeartbeats 4000000
namespace Go.Proofs.Ytichjheodohkaaa
open Go Go.RowKit
def zV : Value := .agg #[.int .i64 0, .int .i64 0, .int .i64 0, .int .i64 0, .int .i64 0, .int .i64 0, .int .i64 0, .int .i64 0, .int .i64 0]
theorem infoV : (Try.prog.info? 32).map (fun i => (i.zero, i.size, i.bytes)) = some (some zV, 9, 72) := by kernel_rfl
theorem infoI : (Try.prog.info? 3).map (fun i => (i.zero, i.size, i.bytes)) = some (some (.int .i64 0), 1, 8) := by kernel_rfl
theorem und22 : Try.prog.underlying 22 = some (.slice 32) := by kernel_rfl
theorem und23 : Try.prog.underlying 23 = some (.slice 3) := by kernel_rfl
theorem set_far (w : World) (p a : Addr) (v : Value) (h : p.block ≠ a.block) : (w.setCell p v).cell? a = w.cell? a := by
  rw [World.cell?_setCell_other]
  rintro rfl
  exact h rfl
theorem set_heap (w : World) (p : Addr) (v : Value) (k : Nat) (h : p.block ≠ k) : (w.setCell p v).heap[k]? = w.heap[k]? := by
  simp [World.setCell, Array.getElem?_modify, h]
theorem At.set {w : World} {b o : Nat} {l : List Int} (h : At w b o l) (p : Addr) (v : Value) (hn : p.block ≠ b) : At (w.setCell p v) b o l :=
  ⟨by simp; exact h.1, fun j hj => by rw [set_far _ _ _ _ hn]; exact h.2 j hj⟩
theorem Tab.set {w : World} {bt bm : Nat} {v u : Value} (h : Tab w bt bm v u) (p : Addr) (x : Value) (h1 : p.block ≠ bt) (h2 : p.block ≠ bm) : Tab (w.setCell p x) bt bm v u :=
  ⟨by rw [set_far _ _ _ _ h1]; exact h.t, by rw [set_heap _ _ _ _ h2]; exact h.m, by simp; exact h.lt⟩
theorem owned {w : World} {base e size : Nat} {v : Value} {n : Nat} {l : List Int} (h : w.ownsRow base e size v n (l.map fun z => Value.int .i64 z)) (h0 : 0 < n) (hl : 0 < l.length) :
    ∃ g cap, v = .slice (some ⟨g, 0, none⟩) n cap ∧ n ≤ cap ∧ base ≤ g ∧ At w g 0 l ∧ w.frozen? ⟨g, 0, none⟩ = false := by
  obtain ⟨_, h | ⟨g, cap, cur, rfl, h2, h3, h4, _, h6, h7⟩⟩ := h
  · omega
  · refine ⟨g, cap, rfl, h4, h2, ⟨(Array.getElem?_eq_some_iff.1 h3).1, fun j hj => ?_⟩, by simp [World.frozen?, show w.heap[(⟨g, 0, none⟩ : Addr).block]? = _ from h3]⟩
    unfold World.cell?
    rw [show w.heap[(⟨g, 0 + j, none⟩ : Addr).block]? = _ from h3]
    have e : (cur.toList.take (n * size))[j]? = some (.int .i64 (l.getD j 0)) := by rw [h7]; simp [hj]
    rw [List.getElem?_take] at e
    split at e
    · simpa using e
    · cases e
/-- A slice of nothing, laid anew. -/
theorem own_nil {w : World} {e size base : Nat} (hb : base ≤ w.heap.size) : (w.alloc (.cells #[] e)).ownsRow base e size (.slice (some ⟨w.heap.size, 0, none⟩) 0 0) 0 [] := by
  refine ⟨by simp, .inr ⟨w.heap.size, 0, #[], rfl, hb, ?_, Nat.le_refl _, by simp [maxLen], by simp, by simp⟩⟩
  exact World.alloc_heap_new w _
theorem news_at {w : World} {b o : Nat} {l : List Int} (h : At w b o l) : ∀ (j : Nat) u, (l.map fun z => Value.int .i64 z)[j]? = some u → w.cell? ((⟨b, o, none⟩ : Addr).add j) = some u := by
  intro j u hj
  have hlt : j < l.length := by have := (List.getElem?_eq_some_iff.1 hj).1; simpa using this
  have : u = .int .i64 (l.getD j 0) := by
    rw [List.getElem?_map, List.getElem?_eq_getElem hlt] at hj
    simp only [Option.map_some, Option.some.injEq] at hj
    rw [← hj]; simp [hlt]
  subst this
  rw [show (⟨b, o, none⟩ : Addr).add j = ⟨b, o + j, none⟩ from by simp [Addr.add]]
  exact h.2 j hlt
theorem news_one (l : List Int) : ∀ u ∈ l.map (fun z => Value.int .i64 z), u.oneCell' = true := by
  intro u hu
  obtain ⟨z, _, rfl⟩ := List.mem_map.1 hu
  rfl
theorem At.grown {w w' : World} {row : Option Nat} {b o : Nat} {l : List Int} (h : At w b o l) (hg : w.grownBy w' row) (hn : some b ≠ row) : At w' b o l :=
  ⟨Nat.lt_of_lt_of_le h.1 hg.size, fun j hj => by rw [World.cell?_of_block (hg.block b h.1 hn)]; exact h.2 j hj⟩
end Go.Proofs.Ytichjheodohkaaa
