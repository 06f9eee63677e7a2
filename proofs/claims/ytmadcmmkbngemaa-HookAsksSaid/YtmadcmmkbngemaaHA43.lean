/- What a shader, asked, comes to: small walks over the program's own form. -/
import Derived.Test.YtmadcmmkbngemaaProg
import Derived.Test.YtmadcmmkbngemaaChecked
import Derived.WalkKit
import Derived.WalkSpells
import Derived.WalkLawsBesides
import Derived.Defers
import Derived.Recover
set_option maxHeartbeats 4000000
set_option maxRecDepth 100000
set_option linter.unusedVariables false
set_option linter.unusedSimpArgs false
namespace Go.Proofs.Ytmadcmmkbngemaa
open Go Go.RowKit
theorem catch_idle (p q : Addr) (w : World) :
    CallsD Try.prog 18 #[.pointer (some p), .pointer (some q)] .returning w fun e u' w' => e = .returned (.tuple #[]) ∧ u' = .returning ∧ w' = w := by
  refine callsD_of_wpS Try.func18 rfl fun c₀ cs hu => ?_
  apply wpS_seq
  apply wpS_region
  simp [wpOpsS, go_sem, recoverD, hu, Try.ntmps18, Exit.thenS]
  refine wpS_cond (t := false) (by simp [Act.eval, Array.replicate]) ?_
  simp only [Bool.false_eq_true, if_false]
  refine wpS_of_wp (wp_skip ?_)
  cases c₀
  simp_all [bodyPostS, results, Try.results18]
theorem nil_ix (w : World) : ∃ u v, (Instr.indexAt 45 (.slice none 0 0) (.int .i64 0)).run Try.prog w = .halt (.panic (.iface u v)) w.drew := by
  have h : Try.prog.underlying 45 = some (.slice 3) := by kernel_rfl
  have e : (Instr.indexAt 45 (.slice none 0 0) (.int .i64 0)).run Try.prog w = (boundsPanic .i64 0 0 .index).run Try.prog w := by
    simp [Instr.indexAt, run_underlying h, asIntOf]
  rw [e]
  unfold boundsPanic
  simp [runtimePanic, goPanic, go_sem]
/-- A panic that nobody has caught. -/
def Fell (e : Ending) : Prop := ∃ u v, e = .panicked [{ v := .iface u v, recovered := false }]
theorem s14_4 (n : Int) (r g b a z s : Int) (qa oa qb ob : Nat) (w : World) (ha : w.cell? ⟨qa, oa, none⟩ = some (.int .i64 4)) (hb : w.cell? ⟨qb, ob, none⟩ = some (.int .i64 n)) (ga : qa < w.heap.size) (gb : qb < w.heap.size) :
    Calls Try.prog 14 #[.agg #[.int .i64 r, .int .i64 g, .int .i64 b, .int .i64 a, .int .i64 z, .int .i64 s], .agg #[.int .i64 0, .int .i64 0, .int .i64 0, .int .i64 0, .int .i64 0], .pointer (some ⟨qa, oa, none⟩), .pointer (some ⟨qb, ob, none⟩)] w fun e w' => Fell e ∧ Below w.heap.size w w' := by
  have ga1 : qa < w.heap.size + 1 := by omega
  have gb1 : qb < w.heap.size + 1 := by omega
  go_enter Try.func14, Try.ntmps14
  go_wp2
  obtain ⟨u, v, hv⟩ := nil_ix ((w.alloc (.cells #[.int .i64 r, .int .i64 g, .int .i64 b, .int .i64 a, .int .i64 z, .int .i64 s] 26)).alloc (.cells #[.int .i64 0, .int .i64 0, .int .i64 0, .int .i64 0, .int .i64 0] 34))
  rw [hv]
  simp [go_sem, Oper.upon]
  refine ⟨rfl, ⟨u, v, rfl⟩, ?_⟩
  exact (((Below.refl _ _).alloc (Nat.le_refl _) _).alloc (by simp) _).drew
theorem s14_1 (n : Int) (r g b a z s : Int) (qa oa qb ob : Nat) (w : World) (ha : w.cell? ⟨qa, oa, none⟩ = some (.int .i64 1)) (hb : w.cell? ⟨qb, ob, none⟩ = some (.int .i64 n)) (ga : qa < w.heap.size) (gb : qb < w.heap.size) :
    Calls Try.prog 14 #[.agg #[.int .i64 r, .int .i64 g, .int .i64 b, .int .i64 a, .int .i64 z, .int .i64 s], .agg #[.int .i64 0, .int .i64 0, .int .i64 0, .int .i64 0, .int .i64 0], .pointer (some ⟨qa, oa, none⟩), .pointer (some ⟨qb, ob, none⟩)] w fun e w' => e = .returned (.iface 24 (.agg #[.int .i64 n, .int .i64 0, .int .i64 0, .int .i64 0])) ∧ Below w.heap.size w w' := by
  have ga1 : qa < w.heap.size + 1 := by omega
  have gb1 : qb < w.heap.size + 1 := by omega
  go_enter Try.func14, Try.ntmps14
  go_wp2
  go_ret
  refine ⟨rfl, ?_⟩
  exact ((Below.refl _ _).alloc (Nat.le_refl _) _).alloc (by simp) _
theorem s14_2 (n : Int) (r g b a z s : Int) (qa oa qb ob : Nat) (w : World) (ha : w.cell? ⟨qa, oa, none⟩ = some (.int .i64 2)) (hb : w.cell? ⟨qb, ob, none⟩ = some (.int .i64 n)) (ga : qa < w.heap.size) (gb : qb < w.heap.size) :
    Calls Try.prog 14 #[.agg #[.int .i64 r, .int .i64 g, .int .i64 b, .int .i64 a, .int .i64 z, .int .i64 s], .agg #[.int .i64 0, .int .i64 0, .int .i64 0, .int .i64 0, .int .i64 0], .pointer (some ⟨qa, oa, none⟩), .pointer (some ⟨qb, ob, none⟩)] w fun e w' => e = .returned (.iface 3 (.int .i64 n)) ∧ Below w.heap.size w w' := by
  have ga1 : qa < w.heap.size + 1 := by omega
  have gb1 : qb < w.heap.size + 1 := by omega
  go_enter Try.func14, Try.ntmps14
  go_wp2
  go_ret
  refine ⟨rfl, ?_⟩
  exact ((Below.refl _ _).alloc (Nat.le_refl _) _).alloc (by simp) _
theorem s14_3 (n : Int) (r g b a z s : Int) (qa oa qb ob : Nat) (w : World) (ha : w.cell? ⟨qa, oa, none⟩ = some (.int .i64 3)) (hb : w.cell? ⟨qb, ob, none⟩ = some (.int .i64 n)) (ga : qa < w.heap.size) (gb : qb < w.heap.size) :
    Calls Try.prog 14 #[.agg #[.int .i64 r, .int .i64 g, .int .i64 b, .int .i64 a, .int .i64 z, .int .i64 s], .agg #[.int .i64 0, .int .i64 0, .int .i64 0, .int .i64 0, .int .i64 0], .pointer (some ⟨qa, oa, none⟩), .pointer (some ⟨qb, ob, none⟩)] w fun e w' => e = .returned (.iface 9 (.string ⟨#[116, 101, 120, 116]⟩)) ∧ Below w.heap.size w w' := by
  have ga1 : qa < w.heap.size + 1 := by omega
  have gb1 : qb < w.heap.size + 1 := by omega
  go_enter Try.func14, Try.ntmps14
  go_wp2
  go_ret
  refine ⟨rfl, ?_⟩
  exact ((Below.refl _ _).alloc (Nat.le_refl _) _).alloc (by simp) _
theorem s14_0 (n : Int) (r g b a z s : Int) (qa oa qb ob : Nat) (w : World) (ha : w.cell? ⟨qa, oa, none⟩ = some (.int .i64 0)) (hb : w.cell? ⟨qb, ob, none⟩ = some (.int .i64 n)) (ga : qa < w.heap.size) (gb : qb < w.heap.size) :
    Calls Try.prog 14 #[.agg #[.int .i64 r, .int .i64 g, .int .i64 b, .int .i64 a, .int .i64 z, .int .i64 s], .agg #[.int .i64 0, .int .i64 0, .int .i64 0, .int .i64 0, .int .i64 0], .pointer (some ⟨qa, oa, none⟩), .pointer (some ⟨qb, ob, none⟩)] w fun e w' => e = .returned (.iface 26 (.agg #[.int .i64 r, .int .i64 g, .int .i64 b, .int .i64 a, .int .i64 n, .int .i64 s])) ∧ Below w.heap.size w w' := by
  have ga1 : qa < w.heap.size + 1 := by omega
  have gb1 : qb < w.heap.size + 1 := by omega
  go_enter Try.func14, Try.ntmps14
  go_wp2
  go_ret
  refine ⟨rfl, ?_⟩
  exact ((Below.refl _ _).alloc (Nat.le_refl _) _).alloc (by simp) _
theorem s13_0 (n : Int) (r g b a z s : Int) (qa oa qb ob : Nat) (w : World) (ha : w.cell? ⟨qa, oa, none⟩ = some (.int .i64 0)) (hb : w.cell? ⟨qb, ob, none⟩ = some (.int .i64 n)) (ga : qa < w.heap.size) (gb : qb < w.heap.size) :
    Calls Try.prog 13 #[.func (.func 14) #[] #[.pointer (some ⟨qa, oa, none⟩), .pointer (some ⟨qb, ob, none⟩)], .agg #[.int .i64 r, .int .i64 g, .int .i64 b, .int .i64 a, .int .i64 z, .int .i64 s], .agg #[.int .i64 0, .int .i64 0, .int .i64 0, .int .i64 0, .int .i64 0]] w fun e w' => e = .returned (.iface 26 (.agg #[.int .i64 r, .int .i64 g, .int .i64 b, .int .i64 a, .int .i64 n, .int .i64 s])) ∧ Below w.heap.size w w' := by
  have ga1 : qa < w.heap.size + 1 := by omega
  have gb1 : qb < w.heap.size + 1 := by omega
  have hin : ∀ (w : World) (x y : Value), (invoke (.fn (.func 14) #[.pointer (some ⟨qa, oa, none⟩), .pointer (some ⟨qb, ob, none⟩)]) #[x, y]).run Try.prog w = .ok (.enter 14 #[x, y, .pointer (some ⟨qa, oa, none⟩), .pointer (some ⟨qb, ob, none⟩)]) w := fun w x y => by simp [invoke, go_sem]
  go_enter Try.func13, Try.ntmps13
  have h1 : (((w.alloc (.cells #[.int .i64 r, .int .i64 g, .int .i64 b, .int .i64 a, .int .i64 z, .int .i64 s] 26)).alloc (.cells #[.int .i64 0, .int .i64 0, .int .i64 0, .int .i64 0, .int .i64 0] 34))).cell? ⟨qa, oa, none⟩ = some (.int .i64 0) := by simp [go_sem, ha, ga, ga1]
  have h2 : (((w.alloc (.cells #[.int .i64 r, .int .i64 g, .int .i64 b, .int .i64 a, .int .i64 z, .int .i64 s] 26)).alloc (.cells #[.int .i64 0, .int .i64 0, .int .i64 0, .int .i64 0, .int .i64 0] 34))).cell? ⟨qb, ob, none⟩ = some (.int .i64 n) := by simp [go_sem, hb, gb, gb1]
  have h3 : qa < (((w.alloc (.cells #[.int .i64 r, .int .i64 g, .int .i64 b, .int .i64 a, .int .i64 z, .int .i64 s] 26)).alloc (.cells #[.int .i64 0, .int .i64 0, .int .i64 0, .int .i64 0, .int .i64 0] 34))).heap.size := by simp; omega
  have h4 : qb < (((w.alloc (.cells #[.int .i64 r, .int .i64 g, .int .i64 b, .int .i64 a, .int .i64 z, .int .i64 s] 26)).alloc (.cells #[.int .i64 0, .int .i64 0, .int .i64 0, .int .i64 0, .int .i64 0] 34))).heap.size := by simp; omega
  have h5 : Below w.heap.size w (((w.alloc (.cells #[.int .i64 r, .int .i64 g, .int .i64 b, .int .i64 a, .int .i64 z, .int .i64 s] 26)).alloc (.cells #[.int .i64 0, .int .i64 0, .int .i64 0, .int .i64 0, .int .i64 0] 34))) := ((Below.refl _ _).alloc (Nat.le_refl _) _).alloc (by simp) _
  have h6 : w.heap.size ≤ (((w.alloc (.cells #[.int .i64 r, .int .i64 g, .int .i64 b, .int .i64 a, .int .i64 z, .int .i64 s] 26)).alloc (.cells #[.int .i64 0, .int .i64 0, .int .i64 0, .int .i64 0, .int .i64 0] 34))).heap.size := h5.size
  go_wp2_with (go_at_call 14; refine (s14_0 n r g b a z s qa oa qb ob _ h1 h2 h3 h4).mono ?_)
  rintro e w' ⟨rfl, hw⟩
  go_wp2
  go_ret
  exact ⟨rfl, h5.trans (hw.mono h6)⟩
theorem s13_1 (n : Int) (r g b a z s : Int) (qa oa qb ob : Nat) (w : World) (ha : w.cell? ⟨qa, oa, none⟩ = some (.int .i64 1)) (hb : w.cell? ⟨qb, ob, none⟩ = some (.int .i64 n)) (ga : qa < w.heap.size) (gb : qb < w.heap.size) :
    Calls Try.prog 13 #[.func (.func 14) #[] #[.pointer (some ⟨qa, oa, none⟩), .pointer (some ⟨qb, ob, none⟩)], .agg #[.int .i64 r, .int .i64 g, .int .i64 b, .int .i64 a, .int .i64 z, .int .i64 s], .agg #[.int .i64 0, .int .i64 0, .int .i64 0, .int .i64 0, .int .i64 0]] w fun e w' => e = .returned (.iface 24 (.agg #[.int .i64 n, .int .i64 0, .int .i64 0, .int .i64 0])) ∧ Below w.heap.size w w' := by
  have ga1 : qa < w.heap.size + 1 := by omega
  have gb1 : qb < w.heap.size + 1 := by omega
  have hin : ∀ (w : World) (x y : Value), (invoke (.fn (.func 14) #[.pointer (some ⟨qa, oa, none⟩), .pointer (some ⟨qb, ob, none⟩)]) #[x, y]).run Try.prog w = .ok (.enter 14 #[x, y, .pointer (some ⟨qa, oa, none⟩), .pointer (some ⟨qb, ob, none⟩)]) w := fun w x y => by simp [invoke, go_sem]
  go_enter Try.func13, Try.ntmps13
  have h1 : (((w.alloc (.cells #[.int .i64 r, .int .i64 g, .int .i64 b, .int .i64 a, .int .i64 z, .int .i64 s] 26)).alloc (.cells #[.int .i64 0, .int .i64 0, .int .i64 0, .int .i64 0, .int .i64 0] 34))).cell? ⟨qa, oa, none⟩ = some (.int .i64 1) := by simp [go_sem, ha, ga, ga1]
  have h2 : (((w.alloc (.cells #[.int .i64 r, .int .i64 g, .int .i64 b, .int .i64 a, .int .i64 z, .int .i64 s] 26)).alloc (.cells #[.int .i64 0, .int .i64 0, .int .i64 0, .int .i64 0, .int .i64 0] 34))).cell? ⟨qb, ob, none⟩ = some (.int .i64 n) := by simp [go_sem, hb, gb, gb1]
  have h3 : qa < (((w.alloc (.cells #[.int .i64 r, .int .i64 g, .int .i64 b, .int .i64 a, .int .i64 z, .int .i64 s] 26)).alloc (.cells #[.int .i64 0, .int .i64 0, .int .i64 0, .int .i64 0, .int .i64 0] 34))).heap.size := by simp; omega
  have h4 : qb < (((w.alloc (.cells #[.int .i64 r, .int .i64 g, .int .i64 b, .int .i64 a, .int .i64 z, .int .i64 s] 26)).alloc (.cells #[.int .i64 0, .int .i64 0, .int .i64 0, .int .i64 0, .int .i64 0] 34))).heap.size := by simp; omega
  have h5 : Below w.heap.size w (((w.alloc (.cells #[.int .i64 r, .int .i64 g, .int .i64 b, .int .i64 a, .int .i64 z, .int .i64 s] 26)).alloc (.cells #[.int .i64 0, .int .i64 0, .int .i64 0, .int .i64 0, .int .i64 0] 34))) := ((Below.refl _ _).alloc (Nat.le_refl _) _).alloc (by simp) _
  have h6 : w.heap.size ≤ (((w.alloc (.cells #[.int .i64 r, .int .i64 g, .int .i64 b, .int .i64 a, .int .i64 z, .int .i64 s] 26)).alloc (.cells #[.int .i64 0, .int .i64 0, .int .i64 0, .int .i64 0, .int .i64 0] 34))).heap.size := h5.size
  go_wp2_with (go_at_call 14; refine (s14_1 n r g b a z s qa oa qb ob _ h1 h2 h3 h4).mono ?_)
  rintro e w' ⟨rfl, hw⟩
  go_wp2
  go_ret
  exact ⟨rfl, h5.trans (hw.mono h6)⟩
theorem s13_2 (n : Int) (r g b a z s : Int) (qa oa qb ob : Nat) (w : World) (ha : w.cell? ⟨qa, oa, none⟩ = some (.int .i64 2)) (hb : w.cell? ⟨qb, ob, none⟩ = some (.int .i64 n)) (ga : qa < w.heap.size) (gb : qb < w.heap.size) :
    Calls Try.prog 13 #[.func (.func 14) #[] #[.pointer (some ⟨qa, oa, none⟩), .pointer (some ⟨qb, ob, none⟩)], .agg #[.int .i64 r, .int .i64 g, .int .i64 b, .int .i64 a, .int .i64 z, .int .i64 s], .agg #[.int .i64 0, .int .i64 0, .int .i64 0, .int .i64 0, .int .i64 0]] w fun e w' => e = .returned (.iface 3 (.int .i64 n)) ∧ Below w.heap.size w w' := by
  have ga1 : qa < w.heap.size + 1 := by omega
  have gb1 : qb < w.heap.size + 1 := by omega
  have hin : ∀ (w : World) (x y : Value), (invoke (.fn (.func 14) #[.pointer (some ⟨qa, oa, none⟩), .pointer (some ⟨qb, ob, none⟩)]) #[x, y]).run Try.prog w = .ok (.enter 14 #[x, y, .pointer (some ⟨qa, oa, none⟩), .pointer (some ⟨qb, ob, none⟩)]) w := fun w x y => by simp [invoke, go_sem]
  go_enter Try.func13, Try.ntmps13
  have h1 : (((w.alloc (.cells #[.int .i64 r, .int .i64 g, .int .i64 b, .int .i64 a, .int .i64 z, .int .i64 s] 26)).alloc (.cells #[.int .i64 0, .int .i64 0, .int .i64 0, .int .i64 0, .int .i64 0] 34))).cell? ⟨qa, oa, none⟩ = some (.int .i64 2) := by simp [go_sem, ha, ga, ga1]
  have h2 : (((w.alloc (.cells #[.int .i64 r, .int .i64 g, .int .i64 b, .int .i64 a, .int .i64 z, .int .i64 s] 26)).alloc (.cells #[.int .i64 0, .int .i64 0, .int .i64 0, .int .i64 0, .int .i64 0] 34))).cell? ⟨qb, ob, none⟩ = some (.int .i64 n) := by simp [go_sem, hb, gb, gb1]
  have h3 : qa < (((w.alloc (.cells #[.int .i64 r, .int .i64 g, .int .i64 b, .int .i64 a, .int .i64 z, .int .i64 s] 26)).alloc (.cells #[.int .i64 0, .int .i64 0, .int .i64 0, .int .i64 0, .int .i64 0] 34))).heap.size := by simp; omega
  have h4 : qb < (((w.alloc (.cells #[.int .i64 r, .int .i64 g, .int .i64 b, .int .i64 a, .int .i64 z, .int .i64 s] 26)).alloc (.cells #[.int .i64 0, .int .i64 0, .int .i64 0, .int .i64 0, .int .i64 0] 34))).heap.size := by simp; omega
  have h5 : Below w.heap.size w (((w.alloc (.cells #[.int .i64 r, .int .i64 g, .int .i64 b, .int .i64 a, .int .i64 z, .int .i64 s] 26)).alloc (.cells #[.int .i64 0, .int .i64 0, .int .i64 0, .int .i64 0, .int .i64 0] 34))) := ((Below.refl _ _).alloc (Nat.le_refl _) _).alloc (by simp) _
  have h6 : w.heap.size ≤ (((w.alloc (.cells #[.int .i64 r, .int .i64 g, .int .i64 b, .int .i64 a, .int .i64 z, .int .i64 s] 26)).alloc (.cells #[.int .i64 0, .int .i64 0, .int .i64 0, .int .i64 0, .int .i64 0] 34))).heap.size := h5.size
  go_wp2_with (go_at_call 14; refine (s14_2 n r g b a z s qa oa qb ob _ h1 h2 h3 h4).mono ?_)
  rintro e w' ⟨rfl, hw⟩
  go_wp2
  go_ret
  exact ⟨rfl, h5.trans (hw.mono h6)⟩
theorem s13_3 (n : Int) (r g b a z s : Int) (qa oa qb ob : Nat) (w : World) (ha : w.cell? ⟨qa, oa, none⟩ = some (.int .i64 3)) (hb : w.cell? ⟨qb, ob, none⟩ = some (.int .i64 n)) (ga : qa < w.heap.size) (gb : qb < w.heap.size) :
    Calls Try.prog 13 #[.func (.func 14) #[] #[.pointer (some ⟨qa, oa, none⟩), .pointer (some ⟨qb, ob, none⟩)], .agg #[.int .i64 r, .int .i64 g, .int .i64 b, .int .i64 a, .int .i64 z, .int .i64 s], .agg #[.int .i64 0, .int .i64 0, .int .i64 0, .int .i64 0, .int .i64 0]] w fun e w' => e = .returned (.iface 9 (.string ⟨#[116, 101, 120, 116]⟩)) ∧ Below w.heap.size w w' := by
  have ga1 : qa < w.heap.size + 1 := by omega
  have gb1 : qb < w.heap.size + 1 := by omega
  have hin : ∀ (w : World) (x y : Value), (invoke (.fn (.func 14) #[.pointer (some ⟨qa, oa, none⟩), .pointer (some ⟨qb, ob, none⟩)]) #[x, y]).run Try.prog w = .ok (.enter 14 #[x, y, .pointer (some ⟨qa, oa, none⟩), .pointer (some ⟨qb, ob, none⟩)]) w := fun w x y => by simp [invoke, go_sem]
  go_enter Try.func13, Try.ntmps13
  have h1 : (((w.alloc (.cells #[.int .i64 r, .int .i64 g, .int .i64 b, .int .i64 a, .int .i64 z, .int .i64 s] 26)).alloc (.cells #[.int .i64 0, .int .i64 0, .int .i64 0, .int .i64 0, .int .i64 0] 34))).cell? ⟨qa, oa, none⟩ = some (.int .i64 3) := by simp [go_sem, ha, ga, ga1]
  have h2 : (((w.alloc (.cells #[.int .i64 r, .int .i64 g, .int .i64 b, .int .i64 a, .int .i64 z, .int .i64 s] 26)).alloc (.cells #[.int .i64 0, .int .i64 0, .int .i64 0, .int .i64 0, .int .i64 0] 34))).cell? ⟨qb, ob, none⟩ = some (.int .i64 n) := by simp [go_sem, hb, gb, gb1]
  have h3 : qa < (((w.alloc (.cells #[.int .i64 r, .int .i64 g, .int .i64 b, .int .i64 a, .int .i64 z, .int .i64 s] 26)).alloc (.cells #[.int .i64 0, .int .i64 0, .int .i64 0, .int .i64 0, .int .i64 0] 34))).heap.size := by simp; omega
  have h4 : qb < (((w.alloc (.cells #[.int .i64 r, .int .i64 g, .int .i64 b, .int .i64 a, .int .i64 z, .int .i64 s] 26)).alloc (.cells #[.int .i64 0, .int .i64 0, .int .i64 0, .int .i64 0, .int .i64 0] 34))).heap.size := by simp; omega
  have h5 : Below w.heap.size w (((w.alloc (.cells #[.int .i64 r, .int .i64 g, .int .i64 b, .int .i64 a, .int .i64 z, .int .i64 s] 26)).alloc (.cells #[.int .i64 0, .int .i64 0, .int .i64 0, .int .i64 0, .int .i64 0] 34))) := ((Below.refl _ _).alloc (Nat.le_refl _) _).alloc (by simp) _
  have h6 : w.heap.size ≤ (((w.alloc (.cells #[.int .i64 r, .int .i64 g, .int .i64 b, .int .i64 a, .int .i64 z, .int .i64 s] 26)).alloc (.cells #[.int .i64 0, .int .i64 0, .int .i64 0, .int .i64 0, .int .i64 0] 34))).heap.size := h5.size
  go_wp2_with (go_at_call 14; refine (s14_3 n r g b a z s qa oa qb ob _ h1 h2 h3 h4).mono ?_)
  rintro e w' ⟨rfl, hw⟩
  go_wp2
  go_ret
  exact ⟨rfl, h5.trans (hw.mono h6)⟩
theorem s13_4 (n : Int) (r g b a z s : Int) (qa oa qb ob : Nat) (w : World) (ha : w.cell? ⟨qa, oa, none⟩ = some (.int .i64 4)) (hb : w.cell? ⟨qb, ob, none⟩ = some (.int .i64 n)) (ga : qa < w.heap.size) (gb : qb < w.heap.size) :
    Calls Try.prog 13 #[.func (.func 14) #[] #[.pointer (some ⟨qa, oa, none⟩), .pointer (some ⟨qb, ob, none⟩)], .agg #[.int .i64 r, .int .i64 g, .int .i64 b, .int .i64 a, .int .i64 z, .int .i64 s], .agg #[.int .i64 0, .int .i64 0, .int .i64 0, .int .i64 0, .int .i64 0]] w fun e w' => Fell e ∧ Below w.heap.size w w' := by
  have ga1 : qa < w.heap.size + 1 := by omega
  have gb1 : qb < w.heap.size + 1 := by omega
  have hin : ∀ (w : World) (x y : Value), (invoke (.fn (.func 14) #[.pointer (some ⟨qa, oa, none⟩), .pointer (some ⟨qb, ob, none⟩)]) #[x, y]).run Try.prog w = .ok (.enter 14 #[x, y, .pointer (some ⟨qa, oa, none⟩), .pointer (some ⟨qb, ob, none⟩)]) w := fun w x y => by simp [invoke, go_sem]
  go_enter Try.func13, Try.ntmps13
  have h1 : (((w.alloc (.cells #[.int .i64 r, .int .i64 g, .int .i64 b, .int .i64 a, .int .i64 z, .int .i64 s] 26)).alloc (.cells #[.int .i64 0, .int .i64 0, .int .i64 0, .int .i64 0, .int .i64 0] 34))).cell? ⟨qa, oa, none⟩ = some (.int .i64 4) := by simp [go_sem, ha, ga, ga1]
  have h2 : (((w.alloc (.cells #[.int .i64 r, .int .i64 g, .int .i64 b, .int .i64 a, .int .i64 z, .int .i64 s] 26)).alloc (.cells #[.int .i64 0, .int .i64 0, .int .i64 0, .int .i64 0, .int .i64 0] 34))).cell? ⟨qb, ob, none⟩ = some (.int .i64 n) := by simp [go_sem, hb, gb, gb1]
  have h3 : qa < (((w.alloc (.cells #[.int .i64 r, .int .i64 g, .int .i64 b, .int .i64 a, .int .i64 z, .int .i64 s] 26)).alloc (.cells #[.int .i64 0, .int .i64 0, .int .i64 0, .int .i64 0, .int .i64 0] 34))).heap.size := by simp; omega
  have h4 : qb < (((w.alloc (.cells #[.int .i64 r, .int .i64 g, .int .i64 b, .int .i64 a, .int .i64 z, .int .i64 s] 26)).alloc (.cells #[.int .i64 0, .int .i64 0, .int .i64 0, .int .i64 0, .int .i64 0] 34))).heap.size := by simp; omega
  have h5 : Below w.heap.size w (((w.alloc (.cells #[.int .i64 r, .int .i64 g, .int .i64 b, .int .i64 a, .int .i64 z, .int .i64 s] 26)).alloc (.cells #[.int .i64 0, .int .i64 0, .int .i64 0, .int .i64 0, .int .i64 0] 34))) := ((Below.refl _ _).alloc (Nat.le_refl _) _).alloc (by simp) _
  have h6 : w.heap.size ≤ (((w.alloc (.cells #[.int .i64 r, .int .i64 g, .int .i64 b, .int .i64 a, .int .i64 z, .int .i64 s] 26)).alloc (.cells #[.int .i64 0, .int .i64 0, .int .i64 0, .int .i64 0, .int .i64 0] 34))).heap.size := h5.size
  go_wp2_with (go_at_call 14; refine (s14_4 n r g b a z s qa oa qb ob _ h1 h2 h3 h4).mono ?_)
  rintro e w' ⟨⟨u, v, rfl⟩, hw⟩
  simp [go_sem, Oper.upon]
  exact ⟨rfl, ⟨u, v, rfl⟩, h5.trans (hw.mono h6)⟩
theorem ta24 (v : Value) (w : World) : (Instr.typeAssert (.iface 24 v) 20 24 true).run Try.prog w = .ok (.tuple #[v, .bool true]) w := by kernel_rfl
theorem ta26_24 (v : Value) (w : World) : (Instr.typeAssert (.iface 26 v) 20 24 true).run Try.prog w = .ok (.tuple #[.agg #[.int .i64 0, .int .i64 0, .int .i64 0, .int .i64 0], .bool false]) w := by kernel_rfl
theorem ta26 (v : Value) (w : World) : (Instr.typeAssert (.iface 26 v) 20 26 true).run Try.prog w = .ok (.tuple #[v, .bool true]) w := by kernel_rfl
theorem ta3_24 (v : Value) (w : World) : (Instr.typeAssert (.iface 3 v) 20 24 true).run Try.prog w = .ok (.tuple #[.agg #[.int .i64 0, .int .i64 0, .int .i64 0, .int .i64 0], .bool false]) w := by kernel_rfl
theorem ta3_26 (v : Value) (w : World) : (Instr.typeAssert (.iface 3 v) 20 26 true).run Try.prog w = .ok (.tuple #[.agg #[.int .i64 0, .int .i64 0, .int .i64 0, .int .i64 0, .int .i64 0, .int .i64 0], .bool false]) w := by kernel_rfl
theorem ta3 (v : Value) (w : World) : (Instr.typeAssert (.iface 3 v) 20 3 false).run Try.prog w = .ok (v) w := by kernel_rfl
theorem ta9_24 (v : Value) (w : World) : (Instr.typeAssert (.iface 9 v) 20 24 true).run Try.prog w = .ok (.tuple #[.agg #[.int .i64 0, .int .i64 0, .int .i64 0, .int .i64 0], .bool false]) w := by kernel_rfl
theorem ta9_26 (v : Value) (w : World) : (Instr.typeAssert (.iface 9 v) 20 26 true).run Try.prog w = .ok (.tuple #[.agg #[.int .i64 0, .int .i64 0, .int .i64 0, .int .i64 0, .int .i64 0, .int .i64 0], .bool false]) w := by kernel_rfl
theorem ta9 (v : Value) (w : World) : ∃ u x w', (Instr.typeAssert (.iface 9 v) 20 3 false).run Try.prog w = .halt (.panic (.iface u x)) w' ∧ Below w.heap.size w w' := by
  have e : (Instr.typeAssert (.iface 9 v) 20 3 false).run Try.prog w = (runtimePanic (.typeAssertion (some 20) (some 9) 3 "") : Sem Value).run Try.prog w := by kernel_rfl
  rw [e]
  have e2 : (elemOf 15).run Try.prog w = .ok 57 w := by kernel_rfl
  simp [runtimePanic, goPanic, go_sem, e2]
  exact ⟨_, _, _, ⟨⟨rfl, rfl⟩, rfl⟩, (Below.refl _ _).alloc (Nat.le_refl _) _⟩
theorem s19_0 (n : Int) (r g b a z s : Int) (w : World) :
    Calls Try.prog 19 #[.agg #[.int .i64 r, .int .i64 g, .int .i64 b, .int .i64 a, .int .i64 z, .int .i64 s], .iface 26 (.agg #[.int .i64 r, .int .i64 g, .int .i64 b, .int .i64 a, .int .i64 n, .int .i64 s])] w fun e w' => e = .returned (.agg #[.int .i64 r, .int .i64 g, .int .i64 b, .int .i64 a, .int .i64 n, .int .i64 s]) ∧ Below w.heap.size w w' := by
  have h_ta26_24 := ta26_24
  have h_ta26 := ta26
  go_enter Try.func19, Try.ntmps19
  go_wp2
  simp [bodyPost, results, Try.results19, go_sem, Try.f19]
  exact (((((Below.refl _ _).alloc (by first | (simp; done) | (simp; omega)) _).alloc (by first | (simp; done) | (simp; omega)) _).alloc (by first | (simp; done) | (simp; omega)) _).alloc (by first | (simp; done) | (simp; omega)) _)
theorem s19_1 (n : Int) (r g b a z s : Int) (w : World) :
    Calls Try.prog 19 #[.agg #[.int .i64 r, .int .i64 g, .int .i64 b, .int .i64 a, .int .i64 z, .int .i64 s], .iface 24 (.agg #[.int .i64 n, .int .i64 0, .int .i64 0, .int .i64 0])] w fun e w' => e = .returned (.agg #[.int .i64 n, .int .i64 0, .int .i64 0, .int .i64 0, .int .i64 z, .int .i64 s]) ∧ Below w.heap.size w w' := by
  have h_ta24 := ta24
  go_enter Try.func19, Try.ntmps19
  go_wp2
  simp [bodyPost, results, Try.results19, go_sem, Try.f19]
  exact ((((Below.refl _ _).alloc (by first | (simp; done) | (simp; omega)) _).alloc (by first | (simp; done) | (simp; omega)) _).alloc (by first | (simp; done) | (simp; omega)) _)
theorem s19_2 (n : Int) (r g b a z s : Int) (w : World) :
    Calls Try.prog 19 #[.agg #[.int .i64 r, .int .i64 g, .int .i64 b, .int .i64 a, .int .i64 z, .int .i64 s], .iface 3 (.int .i64 n)] w fun e w' => e = .returned (.agg #[.int .i64 r, .int .i64 g, .int .i64 b, .int .i64 a, .int .i64 z, .int .i64 n]) ∧ Below w.heap.size w w' := by
  have h_ta3_24 := ta3_24
  have h_ta3_26 := ta3_26
  have h_ta3 := ta3
  go_enter Try.func19, Try.ntmps19
  go_wp2
  simp [bodyPost, results, Try.results19, go_sem, Try.f19]
  exact (((((Below.refl _ _).alloc (by first | (simp; done) | (simp; omega)) _).alloc (by first | (simp; done) | (simp; omega)) _).alloc (by first | (simp; done) | (simp; omega)) _).alloc (by first | (simp; done) | (simp; omega)) _)
theorem s19_3 (n : Int) (r g b a z s : Int) (w : World) :
    Calls Try.prog 19 #[.agg #[.int .i64 r, .int .i64 g, .int .i64 b, .int .i64 a, .int .i64 z, .int .i64 s], .iface 9 (.string ⟨#[116, 101, 120, 116]⟩)] w fun e w' => Fell e ∧ Below w.heap.size w w' := by
  have h_ta9_24 := ta9_24
  have h_ta9_26 := ta9_26
  go_enter Try.func19, Try.ntmps19
  go_wp2
  obtain ⟨u, x, w', h1, h2⟩ := ta9 (.string ⟨#[116, 101, 120, 116]⟩) ((((w.alloc (.cells #[.int .i64 r, .int .i64 g, .int .i64 b, .int .i64 a, .int .i64 z, .int .i64 s] 26)).alloc (.cells #[.int .i64 0, .int .i64 0, .int .i64 0, .int .i64 0, .int .i64 0, .int .i64 0] 26)).alloc (.cells #[.int .i64 0, .int .i64 0, .int .i64 0, .int .i64 0] 24)).alloc (.cells #[.int .i64 0, .int .i64 0, .int .i64 0, .int .i64 0, .int .i64 0, .int .i64 0] 26))
  rw [h1]
  simp [go_sem, Oper.upon]
  have h5 : Below w.heap.size w ((((w.alloc (.cells #[.int .i64 r, .int .i64 g, .int .i64 b, .int .i64 a, .int .i64 z, .int .i64 s] 26)).alloc (.cells #[.int .i64 0, .int .i64 0, .int .i64 0, .int .i64 0, .int .i64 0, .int .i64 0] 26)).alloc (.cells #[.int .i64 0, .int .i64 0, .int .i64 0, .int .i64 0] 24)).alloc (.cells #[.int .i64 0, .int .i64 0, .int .i64 0, .int .i64 0, .int .i64 0, .int .i64 0] 26)) := (((((Below.refl _ _).alloc (by first | (simp; done) | (simp; omega)) _).alloc (by first | (simp; done) | (simp; omega)) _).alloc (by first | (simp; done) | (simp; omega)) _).alloc (by first | (simp; done) | (simp; omega)) _)
  exact ⟨rfl, ⟨u, x, rfl⟩, h5.trans (h2.mono h5.size)⟩
end Go.Proofs.Ytmadcmmkbngemaa
