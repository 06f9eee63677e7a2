/- Asking a shader: Ask's walk. -/
import Derived.Test.YtmadcmmkbngemaaHA43
import Derived.Orders
import Derived.RegionTactic
set_option maxHeartbeats 4000000
set_option maxRecDepth 100000
set_option linter.unusedVariables false
set_option linter.unusedSimpArgs false
namespace Go.Proofs.Ytmadcmmkbngemaa
open Go Go.RowKit
theorem leaves_congr {P : Program} {fn : Func} {tmps tmps' : Array Value} {R : Ending → World → Prop} (hr : ∀ w, (results fn tmps').run P w = (results fn tmps).run P w) :
    ∀ (ds : List Deferred) (u : FrameMode) (w : World), Leaves P fn tmps' R ds u w → Leaves P fn tmps R ds u w
  | [], .returning, w, ⟨v, h1, h2⟩ => ⟨v, (hr w) ▸ h1, h2⟩
  | [], .panicking ch, w, h => h
  | [], .run, w, h => h
  | d :: ds, u, w, ⟨h0, fv, cap, f, args, h1, h2, h3⟩ => ⟨h0, fv, cap, f, args, h1, h2, h3.mono fun e u' w' he => by
      cases e with
      | returned v => exact leaves_congr hr ds _ _ he
      | panicked ch => exact leaves_congr hr ds _ _ he
      | outgrown => exact he⟩
theorem put_results (v : Value) (tmps : Array Value) (w : World) : (results Try.f11 (tmps.setIfInBounds 13 v)).run Try.prog w = (results Try.f11 tmps).run Try.prog w := by
  have e : results Try.f11 (tmps.setIfInBounds 13 v) = results Try.f11 tmps := by
    simp [results, Try.f11, Try.results11, Array.getElem?_setIfInBounds]
  rw [e]
theorem putQ {R : Ending → World → Prop} (v : Value) (c : List PanicEntry) (a : Act) (w : World) (hh : bodyPostD Try.prog Try.f11 R (.panic c) (a.put (some 13) v) w) : bodyPostD Try.prog Try.f11 R (.panic c) a w := by
  exact leaves_congr (put_results v a.tmps) _ _ _ hh
/-- The boxes of an asking: the pixel that came in, what goes out, the error. -/
structure Bx (N : Nat) (r g b a z s o0 o1 o2 o3 o4 o5 ev : Int) (w : World) : Prop where
  p0 : w.cell? ⟨N, 0, none⟩ = some (.int .i64 r)
  p1 : w.cell? ⟨N, 1, none⟩ = some (.int .i64 g)
  p2 : w.cell? ⟨N, 2, none⟩ = some (.int .i64 b)
  p3 : w.cell? ⟨N, 3, none⟩ = some (.int .i64 a)
  p4 : w.cell? ⟨N, 4, none⟩ = some (.int .i64 z)
  p5 : w.cell? ⟨N, 5, none⟩ = some (.int .i64 s)
  f0 : w.cell? ⟨N + 1, 0, none⟩ = some (.int .i64 0)
  f1 : w.cell? ⟨N + 1, 1, none⟩ = some (.int .i64 0)
  f2 : w.cell? ⟨N + 1, 2, none⟩ = some (.int .i64 0)
  f3 : w.cell? ⟨N + 1, 3, none⟩ = some (.int .i64 0)
  f4 : w.cell? ⟨N + 1, 4, none⟩ = some (.int .i64 0)
  q0 : w.cell? ⟨N + 1 + 1, 0, none⟩ = some (.int .i64 o0)
  q1 : w.cell? ⟨N + 1 + 1, 1, none⟩ = some (.int .i64 o1)
  q2 : w.cell? ⟨N + 1 + 1, 2, none⟩ = some (.int .i64 o2)
  q3 : w.cell? ⟨N + 1 + 1, 3, none⟩ = some (.int .i64 o3)
  q4 : w.cell? ⟨N + 1 + 1, 4, none⟩ = some (.int .i64 o4)
  q5 : w.cell? ⟨N + 1 + 1, 5, none⟩ = some (.int .i64 o5)
  ec : w.cell? ⟨N + 1 + 1 + 1, 0, none⟩ = some (.int .i64 ev)
  z0 : w.frozen? ⟨N + 1 + 1, 0, none⟩ = false
  z1 : w.frozen? ⟨N + 1 + 1, 1, none⟩ = false
  z2 : w.frozen? ⟨N + 1 + 1, 2, none⟩ = false
  z3 : w.frozen? ⟨N + 1 + 1, 3, none⟩ = false
  z4 : w.frozen? ⟨N + 1 + 1, 4, none⟩ = false
  z5 : w.frozen? ⟨N + 1 + 1, 5, none⟩ = false
  fe : w.frozen? ⟨N + 1 + 1 + 1, 0, none⟩ = false
  sz : N + 1 + 1 + 1 < w.heap.size
theorem Bx.later {N : Nat} {r g b a z s o0 o1 o2 o3 o4 o5 ev : Int} {w w' : World} (H : Bx N r g b a z s o0 o1 o2 o3 o4 o5 ev w) (hw : Below w.heap.size w w') : Bx N r g b a z s o0 o1 o2 o3 o4 o5 ev w' := by
  have sz := H.sz
  exact ⟨(hw.cell (show N < _ by omega)).trans H.p0, (hw.cell (show N < _ by omega)).trans H.p1, (hw.cell (show N < _ by omega)).trans H.p2, (hw.cell (show N < _ by omega)).trans H.p3, (hw.cell (show N < _ by omega)).trans H.p4, (hw.cell (show N < _ by omega)).trans H.p5, (hw.cell (show N + 1 < _ by omega)).trans H.f0, (hw.cell (show N + 1 < _ by omega)).trans H.f1, (hw.cell (show N + 1 < _ by omega)).trans H.f2, (hw.cell (show N + 1 < _ by omega)).trans H.f3, (hw.cell (show N + 1 < _ by omega)).trans H.f4, (hw.cell (show N + 1 + 1 < _ by omega)).trans H.q0, (hw.cell (show N + 1 + 1 < _ by omega)).trans H.q1, (hw.cell (show N + 1 + 1 < _ by omega)).trans H.q2, (hw.cell (show N + 1 + 1 < _ by omega)).trans H.q3, (hw.cell (show N + 1 + 1 < _ by omega)).trans H.q4, (hw.cell (show N + 1 + 1 < _ by omega)).trans H.q5, (hw.cell (show N + 1 + 1 + 1 < _ by omega)).trans H.ec, (hw.frozen (show N + 1 + 1 < _ by omega)).trans H.z0, (hw.frozen (show N + 1 + 1 < _ by omega)).trans H.z1, (hw.frozen (show N + 1 + 1 < _ by omega)).trans H.z2, (hw.frozen (show N + 1 + 1 < _ by omega)).trans H.z3, (hw.frozen (show N + 1 + 1 < _ by omega)).trans H.z4, (hw.frozen (show N + 1 + 1 < _ by omega)).trans H.z5, (hw.frozen (show N + 1 + 1 + 1 < _ by omega)).trans H.fe, Nat.lt_of_lt_of_le sz hw.size⟩
def W0 (r g b a z s : Int) (w : World) : World := (((w.alloc (.cells #[.int .i64 r, .int .i64 g, .int .i64 b, .int .i64 a, .int .i64 z, .int .i64 s] 26)).alloc (.cells #[.int .i64 0, .int .i64 0, .int .i64 0, .int .i64 0, .int .i64 0] 34)).alloc (.cells #[.int .i64 0, .int .i64 0, .int .i64 0, .int .i64 0, .int .i64 0, .int .i64 0] 26)).alloc (.cells #[.int .i64 0] 27)
theorem bx0 (r g b a z s : Int) (w : World) : Bx w.heap.size r g b a z s 0 0 0 0 0 0 0 (W0 r g b a z s w).drew := by
  unfold W0
  constructor <;> first | (simp [go_sem]; done) | (simp [go_sem]; omega)
theorem low0 (r g b a z s : Int) (w : World) : Below w.heap.size w (W0 r g b a z s w).drew := by
  unfold W0
  exact ((((((Below.refl _ _).alloc (Nat.le_refl _) _).alloc (by simp) _).alloc (by first | (simp; done) | (simp; omega)) _)).alloc (by first | (simp; done) | (simp; omega)) _).drew
theorem catch_panicking (p q : Nat) (o0 o1 o2 o3 o4 o5 ev : Int) (u : TypeId) (pv : Value) (w : World) (q0 : w.cell? ⟨p, 0, none⟩ = some (.int .i64 o0)) (z0 : w.frozen? ⟨p, 0, none⟩ = false) (q1 : w.cell? ⟨p, 1, none⟩ = some (.int .i64 o1)) (z1 : w.frozen? ⟨p, 1, none⟩ = false) (q2 : w.cell? ⟨p, 2, none⟩ = some (.int .i64 o2)) (z2 : w.frozen? ⟨p, 2, none⟩ = false) (q3 : w.cell? ⟨p, 3, none⟩ = some (.int .i64 o3)) (z3 : w.frozen? ⟨p, 3, none⟩ = false) (q4 : w.cell? ⟨p, 4, none⟩ = some (.int .i64 o4)) (z4 : w.frozen? ⟨p, 4, none⟩ = false) (q5 : w.cell? ⟨p, 5, none⟩ = some (.int .i64 o5)) (z5 : w.frozen? ⟨p, 5, none⟩ = false) (ec : w.cell? ⟨q, 0, none⟩ = some (.int .i64 ev)) (fe : w.frozen? ⟨q, 0, none⟩ = false) (hpq : p ≠ q) :
    CallsD Try.prog 18 #[.pointer (some ⟨p, 0, none⟩), .pointer (some ⟨q, 0, none⟩)] (.panicking ({ v := .iface u pv, recovered := false } :: [])) w fun e u' w' =>
      e = .returned (.tuple #[]) ∧ u' = .panicking ({ v := .iface u pv, recovered := true } :: []) ∧ w' = ((((((w.setCell ⟨p, 0, none⟩ (.int .i64 0)).setCell ⟨p, 1, none⟩ (.int .i64 0)).setCell ⟨p, 2, none⟩ (.int .i64 0)).setCell ⟨p, 3, none⟩ (.int .i64 0)).setCell ⟨p, 4, none⟩ (.int .i64 0)).setCell ⟨p, 5, none⟩ (.int .i64 0)).setCell ⟨q, 0, none⟩ (.int .i64 14) := by
  refine callsD_of_wpS Try.func18 rfl fun c₀ cs hu => ?_
  apply wpS_seq
  apply wpS_region
  simp [wpOpsS, go_sem, recoverD, hu, Try.ntmps18, Exit.thenS]
  refine wpS_cond (t := true) (by simp [Act.eval, Array.replicate]) ?_
  simp only [if_true]
  apply wpS_region
  simp [wpOpsS, go_sem, q0, z0, q1, z1, q2, z2, q3, z3, q4, z4, q5, z5, ec, fe, bodyPostS, results, Try.results18]
theorem wipe_low {N : Nat} {w0 w : World} {p q : Nat} {x0 x1 x2 x3 x4 x5 y : Value} (h : Below N w0 w) (hp : N ≤ p) (hq : N ≤ q) : Below N w0 (((((((w.setCell ⟨p, 0, none⟩ x0).setCell ⟨p, 1, none⟩ x1).setCell ⟨p, 2, none⟩ x2).setCell ⟨p, 3, none⟩ x3).setCell ⟨p, 4, none⟩ x4).setCell ⟨p, 5, none⟩ x5).setCell ⟨q, 0, none⟩ y) :=
  ((((((h.setCell hp _).setCell hp _).setCell hp _).setCell hp _).setCell hp _).setCell hp _).setCell hq _
theorem low_put6 {N : Nat} {w0 w : World} {p : Nat} {x0 x1 x2 x3 x4 x5 : Value} (h : Below N w0 w) (hp : N ≤ p) : Below N w0 ((((((w.setCell ⟨p, 0, none⟩ x0).setCell ⟨p, 1, none⟩ x1).setCell ⟨p, 2, none⟩ x2).setCell ⟨p, 3, none⟩ x3).setCell ⟨p, 4, none⟩ x4).setCell ⟨p, 5, none⟩ x5) :=
  (((((h.setCell hp _).setCell hp _).setCell hp _).setCell hp _).setCell hp _).setCell hp _
theorem Bx.put {N : Nat} {r g b a z s o0 o1 o2 o3 o4 o5 ev x0 x1 x2 x3 x4 x5 : Int} {w : World} (H : Bx N r g b a z s o0 o1 o2 o3 o4 o5 ev w) :
    Bx N r g b a z s x0 x1 x2 x3 x4 x5 ev ((((((w.setCell ⟨N + 1 + 1, 0, none⟩ (.int .i64 x0)).setCell ⟨N + 1 + 1, 1, none⟩ (.int .i64 x1)).setCell ⟨N + 1 + 1, 2, none⟩ (.int .i64 x2)).setCell ⟨N + 1 + 1, 3, none⟩ (.int .i64 x3)).setCell ⟨N + 1 + 1, 4, none⟩ (.int .i64 x4)).setCell ⟨N + 1 + 1, 5, none⟩ (.int .i64 x5)) := by
  obtain ⟨p0, p1, p2, p3, p4, p5, f0, f1, f2, f3, f4, q0, q1, q2, q3, q4, q5, ec, z0, z1, z2, z3, z4, z5, fe, sz⟩ := H
  constructor <;> simp [go_sem, p0, p1, p2, p3, p4, p5, f0, f1, f2, f3, f4, q0, q1, q2, q3, q4, q5, ec, z0, z1, z2, z3, z4, z5, fe, sz]
theorem ask_4 (n : Int) (r g b a z s : Int) (qa oa qb ob : Nat) (w : World) (ha : w.cell? ⟨qa, oa, none⟩ = some (.int .i64 4)) (hb : w.cell? ⟨qb, ob, none⟩ = some (.int .i64 n)) (ga : qa < w.heap.size) (gb : qb < w.heap.size) :
    Calls Try.prog 11 #[.iface 31 (.func (.func 14) #[] #[.pointer (some ⟨qa, oa, none⟩), .pointer (some ⟨qb, ob, none⟩)]), .agg #[.int .i64 r, .int .i64 g, .int .i64 b, .int .i64 a, .int .i64 z, .int .i64 s], .agg #[.int .i64 0, .int .i64 0, .int .i64 0, .int .i64 0, .int .i64 0]] w fun e w' => e = .returned (.tuple #[.agg #[.int .i64 0, .int .i64 0, .int .i64 0, .int .i64 0, .int .i64 0, .int .i64 0], .int .i64 14]) ∧ Below w.heap.size w w' := by
  have H0 := bx0 r g b a z s w
  have L0 := low0 r g b a z s w
  have ha0 := (L0.cell (p := ⟨qa, oa, none⟩) ga).trans ha
  have hb0 := (L0.cell (p := ⟨qb, ob, none⟩) gb).trans hb
  have ga0 : qa < (W0 r g b a z s w).drew.heap.size := Nat.lt_of_lt_of_le ga L0.size
  have gb0 : qb < (W0 r g b a z s w).drew.heap.size := Nat.lt_of_lt_of_le gb L0.size
  go_enter_defers Try.func11, Try.ntmps11
  go_wp2
  refine wp_region_any (by kernel_rfl) ?_
  change wpAny _ _ _ _ _ _ _ (World.drew (W0 r g b a z s w))
  generalize (W0 r g b a z s w).drew = w0 at *
  obtain ⟨p0, p1, p2, p3, p4, p5, f0, f1, f2, f3, f4, q0, q1, q2, q3, q4, q5, ec, z0, z1, z2, z3, z4, z5, fe, sz⟩ := id H0
  refine wpAny_take (i := 1) (v := .iface 31 (.func (.func 14) #[] #[.pointer (some ⟨qa, oa, none⟩), .pointer (some ⟨qb, ob, none⟩)])) rfl (by kernel_rfl) (by kernel_rfl) (by kernel_rfl) (fun c a w h => putQ _ c a w h) (Or.inl ⟨by rfl, by intro w; go_simp⟩) ?_
  refine wpAny_ready (rs := [0, 2, 3]) (by kernel_rfl) (by simp) ?_
  refine AllReady.cons rfl (fun K hK => ?_) ?_
  · go_simp
    refine hK _ _ ?_
    clear hK K
    refine wpAny_ready (rs := [2, 3]) (by kernel_rfl) (by simp) ?_
    refine AllReady.cons rfl (fun K hK => ?_) ?_
    · go_simp
      refine hK _ _ ?_
      clear hK K
      refine wpAny_ready (rs := [3]) (by kernel_rfl) (by simp) ?_
      refine AllReady.cons rfl (fun K hK => ?_) ?_
      · go_simp
        refine hK _ _ ?_
        clear hK K
        refine wpAny_ready (rs := [4]) (by kernel_rfl) (by simp) ?_
        refine AllReady.cons rfl (fun K hK => ?_) ?_
        · go_simp
          refine (s13_4 n r g b a z s qa oa qb ob _ ha0 hb0 ga0 gb0).mono ?_
          rintro e w1 ⟨⟨u, v, rfl⟩, hw⟩
          obtain ⟨p0, p1, p2, p3, p4, p5, f0, f1, f2, f3, f4, q0, q1, q2, q3, q4, q5, ec, z0, z1, z2, z3, z4, z5, fe, sz⟩ := id (H0.later hw)
          simp only [Exit.then]
          refine leaves_cons (f := 18) (args := #[.pointer (some ⟨w.heap.size + 1 + 1, 0, none⟩), .pointer (some ⟨w.heap.size + 1 + 1 + 1, 0, none⟩)]) (by simp) (by simp [go_sem]) ?_
          refine (catch_panicking (w.heap.size + 1 + 1) (w.heap.size + 1 + 1 + 1) 0 0 0 0 0 0 0 u v _ q0 z0 q1 z1 q2 z2 q3 z3 q4 z4 q5 z5 ec fe (by omega)).mono ?_
          rintro e u' w' ⟨rfl, rfl, rfl⟩
          simp [Leaves, settle, results, Try.results11, Try.f11, go_sem, q0, q1, q2, q3, q4, q5, ec]
          exact wipe_low (L0.trans (hw.mono L0.size)) (by omega) (by omega)
        exact AllReady.nil
      exact AllReady.nil
    refine AllReady.cons rfl (fun K hK => ?_) ?_
    · go_simp
      refine hK _ _ ?_
      clear hK K
      refine wpAny_ready (rs := [2]) (by kernel_rfl) (by simp) ?_
      refine AllReady.cons rfl (fun K hK => ?_) ?_
      · go_simp
        refine hK _ _ ?_
        clear hK K
        refine wpAny_ready (rs := [4]) (by kernel_rfl) (by simp) ?_
        refine AllReady.cons rfl (fun K hK => ?_) ?_
        · go_simp
          refine (s13_4 n r g b a z s qa oa qb ob _ ha0 hb0 ga0 gb0).mono ?_
          rintro e w1 ⟨⟨u, v, rfl⟩, hw⟩
          obtain ⟨p0, p1, p2, p3, p4, p5, f0, f1, f2, f3, f4, q0, q1, q2, q3, q4, q5, ec, z0, z1, z2, z3, z4, z5, fe, sz⟩ := id (H0.later hw)
          simp only [Exit.then]
          refine leaves_cons (f := 18) (args := #[.pointer (some ⟨w.heap.size + 1 + 1, 0, none⟩), .pointer (some ⟨w.heap.size + 1 + 1 + 1, 0, none⟩)]) (by simp) (by simp [go_sem]) ?_
          refine (catch_panicking (w.heap.size + 1 + 1) (w.heap.size + 1 + 1 + 1) 0 0 0 0 0 0 0 u v _ q0 z0 q1 z1 q2 z2 q3 z3 q4 z4 q5 z5 ec fe (by omega)).mono ?_
          rintro e u' w' ⟨rfl, rfl, rfl⟩
          simp [Leaves, settle, results, Try.results11, Try.f11, go_sem, q0, q1, q2, q3, q4, q5, ec]
          exact wipe_low (L0.trans (hw.mono L0.size)) (by omega) (by omega)
        exact AllReady.nil
      exact AllReady.nil
    exact AllReady.nil
  refine AllReady.cons rfl (fun K hK => ?_) ?_
  · go_simp
    refine hK _ _ ?_
    clear hK K
    refine wpAny_ready (rs := [0, 3]) (by kernel_rfl) (by simp) ?_
    refine AllReady.cons rfl (fun K hK => ?_) ?_
    · go_simp
      refine hK _ _ ?_
      clear hK K
      refine wpAny_ready (rs := [3]) (by kernel_rfl) (by simp) ?_
      refine AllReady.cons rfl (fun K hK => ?_) ?_
      · go_simp
        refine hK _ _ ?_
        clear hK K
        refine wpAny_ready (rs := [4]) (by kernel_rfl) (by simp) ?_
        refine AllReady.cons rfl (fun K hK => ?_) ?_
        · go_simp
          refine (s13_4 n r g b a z s qa oa qb ob _ ha0 hb0 ga0 gb0).mono ?_
          rintro e w1 ⟨⟨u, v, rfl⟩, hw⟩
          obtain ⟨p0, p1, p2, p3, p4, p5, f0, f1, f2, f3, f4, q0, q1, q2, q3, q4, q5, ec, z0, z1, z2, z3, z4, z5, fe, sz⟩ := id (H0.later hw)
          simp only [Exit.then]
          refine leaves_cons (f := 18) (args := #[.pointer (some ⟨w.heap.size + 1 + 1, 0, none⟩), .pointer (some ⟨w.heap.size + 1 + 1 + 1, 0, none⟩)]) (by simp) (by simp [go_sem]) ?_
          refine (catch_panicking (w.heap.size + 1 + 1) (w.heap.size + 1 + 1 + 1) 0 0 0 0 0 0 0 u v _ q0 z0 q1 z1 q2 z2 q3 z3 q4 z4 q5 z5 ec fe (by omega)).mono ?_
          rintro e u' w' ⟨rfl, rfl, rfl⟩
          simp [Leaves, settle, results, Try.results11, Try.f11, go_sem, q0, q1, q2, q3, q4, q5, ec]
          exact wipe_low (L0.trans (hw.mono L0.size)) (by omega) (by omega)
        exact AllReady.nil
      exact AllReady.nil
    refine AllReady.cons rfl (fun K hK => ?_) ?_
    · go_simp
      refine hK _ _ ?_
      clear hK K
      refine wpAny_ready (rs := [0, 4]) (by kernel_rfl) (by simp) ?_
      refine AllReady.cons rfl (fun K hK => ?_) ?_
      · go_simp
        refine hK _ _ ?_
        clear hK K
        refine wpAny_ready (rs := [4]) (by kernel_rfl) (by simp) ?_
        refine AllReady.cons rfl (fun K hK => ?_) ?_
        · go_simp
          refine (s13_4 n r g b a z s qa oa qb ob _ ha0 hb0 ga0 gb0).mono ?_
          rintro e w1 ⟨⟨u, v, rfl⟩, hw⟩
          obtain ⟨p0, p1, p2, p3, p4, p5, f0, f1, f2, f3, f4, q0, q1, q2, q3, q4, q5, ec, z0, z1, z2, z3, z4, z5, fe, sz⟩ := id (H0.later hw)
          simp only [Exit.then]
          refine leaves_cons (f := 18) (args := #[.pointer (some ⟨w.heap.size + 1 + 1, 0, none⟩), .pointer (some ⟨w.heap.size + 1 + 1 + 1, 0, none⟩)]) (by simp) (by simp [go_sem]) ?_
          refine (catch_panicking (w.heap.size + 1 + 1) (w.heap.size + 1 + 1 + 1) 0 0 0 0 0 0 0 u v _ q0 z0 q1 z1 q2 z2 q3 z3 q4 z4 q5 z5 ec fe (by omega)).mono ?_
          rintro e u' w' ⟨rfl, rfl, rfl⟩
          simp [Leaves, settle, results, Try.results11, Try.f11, go_sem, q0, q1, q2, q3, q4, q5, ec]
          exact wipe_low (L0.trans (hw.mono L0.size)) (by omega) (by omega)
        exact AllReady.nil
      refine AllReady.cons rfl (fun K hK => ?_) ?_
      · go_simp
        refine (s13_4 n r g b a z s qa oa qb ob _ ha0 hb0 ga0 gb0).mono ?_
        rintro e w1 ⟨⟨u, v, rfl⟩, hw⟩
        obtain ⟨p0, p1, p2, p3, p4, p5, f0, f1, f2, f3, f4, q0, q1, q2, q3, q4, q5, ec, z0, z1, z2, z3, z4, z5, fe, sz⟩ := id (H0.later hw)
        simp only [Exit.then]
        refine leaves_cons (f := 18) (args := #[.pointer (some ⟨w.heap.size + 1 + 1, 0, none⟩), .pointer (some ⟨w.heap.size + 1 + 1 + 1, 0, none⟩)]) (by simp) (by simp [go_sem]) ?_
        refine (catch_panicking (w.heap.size + 1 + 1) (w.heap.size + 1 + 1 + 1) 0 0 0 0 0 0 0 u v _ q0 z0 q1 z1 q2 z2 q3 z3 q4 z4 q5 z5 ec fe (by omega)).mono ?_
        rintro e u' w' ⟨rfl, rfl, rfl⟩
        simp [Leaves, settle, results, Try.results11, Try.f11, go_sem, q0, q1, q2, q3, q4, q5, ec]
        exact wipe_low (L0.trans (hw.mono L0.size)) (by omega) (by omega)
      exact AllReady.nil
    exact AllReady.nil
  refine AllReady.cons rfl (fun K hK => ?_) ?_
  · go_simp
    refine hK _ _ ?_
    clear hK K
    refine wpAny_ready (rs := [0, 2]) (by kernel_rfl) (by simp) ?_
    refine AllReady.cons rfl (fun K hK => ?_) ?_
    · go_simp
      refine hK _ _ ?_
      clear hK K
      refine wpAny_ready (rs := [2]) (by kernel_rfl) (by simp) ?_
      refine AllReady.cons rfl (fun K hK => ?_) ?_
      · go_simp
        refine hK _ _ ?_
        clear hK K
        refine wpAny_ready (rs := [4]) (by kernel_rfl) (by simp) ?_
        refine AllReady.cons rfl (fun K hK => ?_) ?_
        · go_simp
          refine (s13_4 n r g b a z s qa oa qb ob _ ha0 hb0 ga0 gb0).mono ?_
          rintro e w1 ⟨⟨u, v, rfl⟩, hw⟩
          obtain ⟨p0, p1, p2, p3, p4, p5, f0, f1, f2, f3, f4, q0, q1, q2, q3, q4, q5, ec, z0, z1, z2, z3, z4, z5, fe, sz⟩ := id (H0.later hw)
          simp only [Exit.then]
          refine leaves_cons (f := 18) (args := #[.pointer (some ⟨w.heap.size + 1 + 1, 0, none⟩), .pointer (some ⟨w.heap.size + 1 + 1 + 1, 0, none⟩)]) (by simp) (by simp [go_sem]) ?_
          refine (catch_panicking (w.heap.size + 1 + 1) (w.heap.size + 1 + 1 + 1) 0 0 0 0 0 0 0 u v _ q0 z0 q1 z1 q2 z2 q3 z3 q4 z4 q5 z5 ec fe (by omega)).mono ?_
          rintro e u' w' ⟨rfl, rfl, rfl⟩
          simp [Leaves, settle, results, Try.results11, Try.f11, go_sem, q0, q1, q2, q3, q4, q5, ec]
          exact wipe_low (L0.trans (hw.mono L0.size)) (by omega) (by omega)
        exact AllReady.nil
      exact AllReady.nil
    refine AllReady.cons rfl (fun K hK => ?_) ?_
    · go_simp
      refine hK _ _ ?_
      clear hK K
      refine wpAny_ready (rs := [0, 4]) (by kernel_rfl) (by simp) ?_
      refine AllReady.cons rfl (fun K hK => ?_) ?_
      · go_simp
        refine hK _ _ ?_
        clear hK K
        refine wpAny_ready (rs := [4]) (by kernel_rfl) (by simp) ?_
        refine AllReady.cons rfl (fun K hK => ?_) ?_
        · go_simp
          refine (s13_4 n r g b a z s qa oa qb ob _ ha0 hb0 ga0 gb0).mono ?_
          rintro e w1 ⟨⟨u, v, rfl⟩, hw⟩
          obtain ⟨p0, p1, p2, p3, p4, p5, f0, f1, f2, f3, f4, q0, q1, q2, q3, q4, q5, ec, z0, z1, z2, z3, z4, z5, fe, sz⟩ := id (H0.later hw)
          simp only [Exit.then]
          refine leaves_cons (f := 18) (args := #[.pointer (some ⟨w.heap.size + 1 + 1, 0, none⟩), .pointer (some ⟨w.heap.size + 1 + 1 + 1, 0, none⟩)]) (by simp) (by simp [go_sem]) ?_
          refine (catch_panicking (w.heap.size + 1 + 1) (w.heap.size + 1 + 1 + 1) 0 0 0 0 0 0 0 u v _ q0 z0 q1 z1 q2 z2 q3 z3 q4 z4 q5 z5 ec fe (by omega)).mono ?_
          rintro e u' w' ⟨rfl, rfl, rfl⟩
          simp [Leaves, settle, results, Try.results11, Try.f11, go_sem, q0, q1, q2, q3, q4, q5, ec]
          exact wipe_low (L0.trans (hw.mono L0.size)) (by omega) (by omega)
        exact AllReady.nil
      refine AllReady.cons rfl (fun K hK => ?_) ?_
      · go_simp
        refine (s13_4 n r g b a z s qa oa qb ob _ ha0 hb0 ga0 gb0).mono ?_
        rintro e w1 ⟨⟨u, v, rfl⟩, hw⟩
        obtain ⟨p0, p1, p2, p3, p4, p5, f0, f1, f2, f3, f4, q0, q1, q2, q3, q4, q5, ec, z0, z1, z2, z3, z4, z5, fe, sz⟩ := id (H0.later hw)
        simp only [Exit.then]
        refine leaves_cons (f := 18) (args := #[.pointer (some ⟨w.heap.size + 1 + 1, 0, none⟩), .pointer (some ⟨w.heap.size + 1 + 1 + 1, 0, none⟩)]) (by simp) (by simp [go_sem]) ?_
        refine (catch_panicking (w.heap.size + 1 + 1) (w.heap.size + 1 + 1 + 1) 0 0 0 0 0 0 0 u v _ q0 z0 q1 z1 q2 z2 q3 z3 q4 z4 q5 z5 ec fe (by omega)).mono ?_
        rintro e u' w' ⟨rfl, rfl, rfl⟩
        simp [Leaves, settle, results, Try.results11, Try.f11, go_sem, q0, q1, q2, q3, q4, q5, ec]
        exact wipe_low (L0.trans (hw.mono L0.size)) (by omega) (by omega)
      exact AllReady.nil
    exact AllReady.nil
  exact AllReady.nil
end Go.Proofs.Ytmadcmmkbngemaa
