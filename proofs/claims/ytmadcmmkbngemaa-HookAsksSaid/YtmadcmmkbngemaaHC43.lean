/- Asking a shader: Ask's walk. -/
import Derived.Test.YtmadcmmkbngemaaHB43
import Derived.Orders
import Derived.RegionTactic
set_option maxHeartbeats 4000000
set_option maxRecDepth 100000
set_option linter.unusedVariables false
set_option linter.unusedSimpArgs false
namespace Go.Proofs.Ytmadcmmkbngemaa
open Go Go.RowKit
theorem ask_3 (n : Int) (r g b a z s : Int) (qa oa qb ob : Nat) (w : World) (ha : w.cell? ⟨qa, oa, none⟩ = some (.int .i64 3)) (hb : w.cell? ⟨qb, ob, none⟩ = some (.int .i64 n)) (ga : qa < w.heap.size) (gb : qb < w.heap.size) :
    Calls Try.prog 11 #[.iface 31 (.func (.func 14) #[] #[.pointer (some ⟨qa, oa, none⟩), .pointer (some ⟨qb, ob, none⟩)]), .agg #[.int .i64 r, .int .i64 g, .int .i64 b, .int .i64 a, .int .i64 z, .int .i64 s], .agg #[.int .i64 0, .int .i64 0, .int .i64 0, .int .i64 0, .int .i64 0]] w fun e w' => e = .returned (.tuple #[.agg #[.int .i64 0, .int .i64 0, .int .i64 0, .int .i64 0, .int .i64 0, .int .i64 0], .int .i64 14]) ∧ Below w.heap.size w w' := by
  have H0 := bx0 r g b a z s w
  have L0 := low0 r g b a z s w
  have ha0 := (L0.cell (p := ⟨qa, oa, none⟩) ga).trans ha
  have hb0 := (L0.cell (p := ⟨qb, ob, none⟩) gb).trans hb
  have ga0 : qa < (W0 r g b a z s w).drew.heap.size := Nat.lt_of_lt_of_le ga L0.size
  have gb0 : qb < (W0 r g b a z s w).drew.heap.size := Nat.lt_of_lt_of_le gb L0.size
  go_enter_defers Try.func11, Try.ntmps11
  go_wp2
  refine wp_region_any (by kernel_rfl) ?_
  change wpAny _ _ _ _ _ _ _ (World.drew (W0 r g b a z s w))
  generalize (W0 r g b a z s w).drew = w0 at *
  obtain ⟨p0, p1, p2, p3, p4, p5, f0, f1, f2, f3, f4, q0, q1, q2, q3, q4, q5, ec, z0, z1, z2, z3, z4, z5, fe, sz⟩ := id H0
  refine wpAny_take (i := 1) (v := .iface 31 (.func (.func 14) #[] #[.pointer (some ⟨qa, oa, none⟩), .pointer (some ⟨qb, ob, none⟩)])) rfl (by kernel_rfl) (by kernel_rfl) (by kernel_rfl) (fun c a w h => putQ _ c a w h) (Or.inl ⟨by rfl, by intro w; go_simp⟩) ?_
  refine wpAny_ready (rs := [0, 2, 3]) (by kernel_rfl) (by simp) ?_
  refine AllReady.cons rfl (fun K hK => ?_) ?_
  · go_simp
    refine hK _ _ ?_
    clear hK K
    refine wpAny_ready (rs := [2, 3]) (by kernel_rfl) (by simp) ?_
    refine AllReady.cons rfl (fun K hK => ?_) ?_
    · go_simp
      refine hK _ _ ?_
      clear hK K
      refine wpAny_ready (rs := [3]) (by kernel_rfl) (by simp) ?_
      refine AllReady.cons rfl (fun K hK => ?_) ?_
      · go_simp
        refine hK _ _ ?_
        clear hK K
        refine wpAny_ready (rs := [4]) (by kernel_rfl) (by simp) ?_
        refine AllReady.cons rfl (fun K hK => ?_) ?_
        · go_simp
          refine (s13_3 n r g b a z s qa oa qb ob _ ha0 hb0 ga0 gb0).mono ?_
          rintro e w1 ⟨rfl, hw⟩
          have H1 := H0.later hw
          obtain ⟨p0, p1, p2, p3, p4, p5, f0, f1, f2, f3, f4, q0, q1, q2, q3, q4, q5, ec, z0, z1, z2, z3, z4, z5, fe, sz⟩ := id H1
          have L1 := L0.trans (hw.mono L0.size)
          refine hK _ _ ?_
          clear hK K
          refine wpAny_ready (rs := [5]) (by kernel_rfl) (by simp) ?_
          refine AllReady.cons rfl (fun K hK => ?_) ?_
          · go_simp
            refine (s19_3 n r g b a z s _).mono ?_
            rintro e w2 ⟨⟨u, v, rfl⟩, hw2⟩
            obtain ⟨p0, p1, p2, p3, p4, p5, f0, f1, f2, f3, f4, q0, q1, q2, q3, q4, q5, ec, z0, z1, z2, z3, z4, z5, fe, sz⟩ := id (H1.later hw2)
            simp only [Exit.then]
            refine leaves_cons (f := 18) (args := #[.pointer (some ⟨w.heap.size + 1 + 1, 0, none⟩), .pointer (some ⟨w.heap.size + 1 + 1 + 1, 0, none⟩)]) (by simp) (by simp [go_sem]) ?_
            refine (catch_panicking (w.heap.size + 1 + 1) (w.heap.size + 1 + 1 + 1) 0 0 0 0 0 0 0 u v _ q0 z0 q1 z1 q2 z2 q3 z3 q4 z4 q5 z5 ec fe (by omega)).mono ?_
            rintro e u' w' ⟨rfl, rfl, rfl⟩
            simp [Leaves, settle, results, Try.results11, Try.f11, go_sem, q0, q1, q2, q3, q4, q5, ec]
            exact wipe_low (L1.trans (hw2.mono L1.size)) (by omega) (by omega)
          exact AllReady.nil
        exact AllReady.nil
      exact AllReady.nil
    refine AllReady.cons rfl (fun K hK => ?_) ?_
    · go_simp
      refine hK _ _ ?_
      clear hK K
      refine wpAny_ready (rs := [2]) (by kernel_rfl) (by simp) ?_
      refine AllReady.cons rfl (fun K hK => ?_) ?_
      · go_simp
        refine hK _ _ ?_
        clear hK K
        refine wpAny_ready (rs := [4]) (by kernel_rfl) (by simp) ?_
        refine AllReady.cons rfl (fun K hK => ?_) ?_
        · go_simp
          refine (s13_3 n r g b a z s qa oa qb ob _ ha0 hb0 ga0 gb0).mono ?_
          rintro e w1 ⟨rfl, hw⟩
          have H1 := H0.later hw
          obtain ⟨p0, p1, p2, p3, p4, p5, f0, f1, f2, f3, f4, q0, q1, q2, q3, q4, q5, ec, z0, z1, z2, z3, z4, z5, fe, sz⟩ := id H1
          have L1 := L0.trans (hw.mono L0.size)
          refine hK _ _ ?_
          clear hK K
          refine wpAny_ready (rs := [5]) (by kernel_rfl) (by simp) ?_
          refine AllReady.cons rfl (fun K hK => ?_) ?_
          · go_simp
            refine (s19_3 n r g b a z s _).mono ?_
            rintro e w2 ⟨⟨u, v, rfl⟩, hw2⟩
            obtain ⟨p0, p1, p2, p3, p4, p5, f0, f1, f2, f3, f4, q0, q1, q2, q3, q4, q5, ec, z0, z1, z2, z3, z4, z5, fe, sz⟩ := id (H1.later hw2)
            simp only [Exit.then]
            refine leaves_cons (f := 18) (args := #[.pointer (some ⟨w.heap.size + 1 + 1, 0, none⟩), .pointer (some ⟨w.heap.size + 1 + 1 + 1, 0, none⟩)]) (by simp) (by simp [go_sem]) ?_
            refine (catch_panicking (w.heap.size + 1 + 1) (w.heap.size + 1 + 1 + 1) 0 0 0 0 0 0 0 u v _ q0 z0 q1 z1 q2 z2 q3 z3 q4 z4 q5 z5 ec fe (by omega)).mono ?_
            rintro e u' w' ⟨rfl, rfl, rfl⟩
            simp [Leaves, settle, results, Try.results11, Try.f11, go_sem, q0, q1, q2, q3, q4, q5, ec]
            exact wipe_low (L1.trans (hw2.mono L1.size)) (by omega) (by omega)
          exact AllReady.nil
        exact AllReady.nil
      exact AllReady.nil
    exact AllReady.nil
  refine AllReady.cons rfl (fun K hK => ?_) ?_
  · go_simp
    refine hK _ _ ?_
    clear hK K
    refine wpAny_ready (rs := [0, 3]) (by kernel_rfl) (by simp) ?_
    refine AllReady.cons rfl (fun K hK => ?_) ?_
    · go_simp
      refine hK _ _ ?_
      clear hK K
      refine wpAny_ready (rs := [3]) (by kernel_rfl) (by simp) ?_
      refine AllReady.cons rfl (fun K hK => ?_) ?_
      · go_simp
        refine hK _ _ ?_
        clear hK K
        refine wpAny_ready (rs := [4]) (by kernel_rfl) (by simp) ?_
        refine AllReady.cons rfl (fun K hK => ?_) ?_
        · go_simp
          refine (s13_3 n r g b a z s qa oa qb ob _ ha0 hb0 ga0 gb0).mono ?_
          rintro e w1 ⟨rfl, hw⟩
          have H1 := H0.later hw
          obtain ⟨p0, p1, p2, p3, p4, p5, f0, f1, f2, f3, f4, q0, q1, q2, q3, q4, q5, ec, z0, z1, z2, z3, z4, z5, fe, sz⟩ := id H1
          have L1 := L0.trans (hw.mono L0.size)
          refine hK _ _ ?_
          clear hK K
          refine wpAny_ready (rs := [5]) (by kernel_rfl) (by simp) ?_
          refine AllReady.cons rfl (fun K hK => ?_) ?_
          · go_simp
            refine (s19_3 n r g b a z s _).mono ?_
            rintro e w2 ⟨⟨u, v, rfl⟩, hw2⟩
            obtain ⟨p0, p1, p2, p3, p4, p5, f0, f1, f2, f3, f4, q0, q1, q2, q3, q4, q5, ec, z0, z1, z2, z3, z4, z5, fe, sz⟩ := id (H1.later hw2)
            simp only [Exit.then]
            refine leaves_cons (f := 18) (args := #[.pointer (some ⟨w.heap.size + 1 + 1, 0, none⟩), .pointer (some ⟨w.heap.size + 1 + 1 + 1, 0, none⟩)]) (by simp) (by simp [go_sem]) ?_
            refine (catch_panicking (w.heap.size + 1 + 1) (w.heap.size + 1 + 1 + 1) 0 0 0 0 0 0 0 u v _ q0 z0 q1 z1 q2 z2 q3 z3 q4 z4 q5 z5 ec fe (by omega)).mono ?_
            rintro e u' w' ⟨rfl, rfl, rfl⟩
            simp [Leaves, settle, results, Try.results11, Try.f11, go_sem, q0, q1, q2, q3, q4, q5, ec]
            exact wipe_low (L1.trans (hw2.mono L1.size)) (by omega) (by omega)
          exact AllReady.nil
        exact AllReady.nil
      exact AllReady.nil
    refine AllReady.cons rfl (fun K hK => ?_) ?_
    · go_simp
      refine hK _ _ ?_
      clear hK K
      refine wpAny_ready (rs := [0, 4]) (by kernel_rfl) (by simp) ?_
      refine AllReady.cons rfl (fun K hK => ?_) ?_
      · go_simp
        refine hK _ _ ?_
        clear hK K
        refine wpAny_ready (rs := [4]) (by kernel_rfl) (by simp) ?_
        refine AllReady.cons rfl (fun K hK => ?_) ?_
        · go_simp
          refine (s13_3 n r g b a z s qa oa qb ob _ ha0 hb0 ga0 gb0).mono ?_
          rintro e w1 ⟨rfl, hw⟩
          have H1 := H0.later hw
          obtain ⟨p0, p1, p2, p3, p4, p5, f0, f1, f2, f3, f4, q0, q1, q2, q3, q4, q5, ec, z0, z1, z2, z3, z4, z5, fe, sz⟩ := id H1
          have L1 := L0.trans (hw.mono L0.size)
          refine hK _ _ ?_
          clear hK K
          refine wpAny_ready (rs := [5]) (by kernel_rfl) (by simp) ?_
          refine AllReady.cons rfl (fun K hK => ?_) ?_
          · go_simp
            refine (s19_3 n r g b a z s _).mono ?_
            rintro e w2 ⟨⟨u, v, rfl⟩, hw2⟩
            obtain ⟨p0, p1, p2, p3, p4, p5, f0, f1, f2, f3, f4, q0, q1, q2, q3, q4, q5, ec, z0, z1, z2, z3, z4, z5, fe, sz⟩ := id (H1.later hw2)
            simp only [Exit.then]
            refine leaves_cons (f := 18) (args := #[.pointer (some ⟨w.heap.size + 1 + 1, 0, none⟩), .pointer (some ⟨w.heap.size + 1 + 1 + 1, 0, none⟩)]) (by simp) (by simp [go_sem]) ?_
            refine (catch_panicking (w.heap.size + 1 + 1) (w.heap.size + 1 + 1 + 1) 0 0 0 0 0 0 0 u v _ q0 z0 q1 z1 q2 z2 q3 z3 q4 z4 q5 z5 ec fe (by omega)).mono ?_
            rintro e u' w' ⟨rfl, rfl, rfl⟩
            simp [Leaves, settle, results, Try.results11, Try.f11, go_sem, q0, q1, q2, q3, q4, q5, ec]
            exact wipe_low (L1.trans (hw2.mono L1.size)) (by omega) (by omega)
          exact AllReady.nil
        exact AllReady.nil
      refine AllReady.cons rfl (fun K hK => ?_) ?_
      · go_simp
        refine (s13_3 n r g b a z s qa oa qb ob _ ha0 hb0 ga0 gb0).mono ?_
        rintro e w1 ⟨rfl, hw⟩
        have H1 := H0.later hw
        obtain ⟨p0, p1, p2, p3, p4, p5, f0, f1, f2, f3, f4, q0, q1, q2, q3, q4, q5, ec, z0, z1, z2, z3, z4, z5, fe, sz⟩ := id H1
        have L1 := L0.trans (hw.mono L0.size)
        refine hK _ _ ?_
        clear hK K
        refine wpAny_ready (rs := [0]) (by kernel_rfl) (by simp) ?_
        refine AllReady.cons rfl (fun K hK => ?_) ?_
        · go_simp
          refine hK _ _ ?_
          clear hK K
          refine wpAny_ready (rs := [5]) (by kernel_rfl) (by simp) ?_
          refine AllReady.cons rfl (fun K hK => ?_) ?_
          · go_simp
            refine (s19_3 n r g b a z s _).mono ?_
            rintro e w2 ⟨⟨u, v, rfl⟩, hw2⟩
            obtain ⟨p0, p1, p2, p3, p4, p5, f0, f1, f2, f3, f4, q0, q1, q2, q3, q4, q5, ec, z0, z1, z2, z3, z4, z5, fe, sz⟩ := id (H1.later hw2)
            simp only [Exit.then]
            refine leaves_cons (f := 18) (args := #[.pointer (some ⟨w.heap.size + 1 + 1, 0, none⟩), .pointer (some ⟨w.heap.size + 1 + 1 + 1, 0, none⟩)]) (by simp) (by simp [go_sem]) ?_
            refine (catch_panicking (w.heap.size + 1 + 1) (w.heap.size + 1 + 1 + 1) 0 0 0 0 0 0 0 u v _ q0 z0 q1 z1 q2 z2 q3 z3 q4 z4 q5 z5 ec fe (by omega)).mono ?_
            rintro e u' w' ⟨rfl, rfl, rfl⟩
            simp [Leaves, settle, results, Try.results11, Try.f11, go_sem, q0, q1, q2, q3, q4, q5, ec]
            exact wipe_low (L1.trans (hw2.mono L1.size)) (by omega) (by omega)
          exact AllReady.nil
        exact AllReady.nil
      exact AllReady.nil
    exact AllReady.nil
  refine AllReady.cons rfl (fun K hK => ?_) ?_
  · go_simp
    refine hK _ _ ?_
    clear hK K
    refine wpAny_ready (rs := [0, 2]) (by kernel_rfl) (by simp) ?_
    refine AllReady.cons rfl (fun K hK => ?_) ?_
    · go_simp
      refine hK _ _ ?_
      clear hK K
      refine wpAny_ready (rs := [2]) (by kernel_rfl) (by simp) ?_
      refine AllReady.cons rfl (fun K hK => ?_) ?_
      · go_simp
        refine hK _ _ ?_
        clear hK K
        refine wpAny_ready (rs := [4]) (by kernel_rfl) (by simp) ?_
        refine AllReady.cons rfl (fun K hK => ?_) ?_
        · go_simp
          refine (s13_3 n r g b a z s qa oa qb ob _ ha0 hb0 ga0 gb0).mono ?_
          rintro e w1 ⟨rfl, hw⟩
          have H1 := H0.later hw
          obtain ⟨p0, p1, p2, p3, p4, p5, f0, f1, f2, f3, f4, q0, q1, q2, q3, q4, q5, ec, z0, z1, z2, z3, z4, z5, fe, sz⟩ := id H1
          have L1 := L0.trans (hw.mono L0.size)
          refine hK _ _ ?_
          clear hK K
          refine wpAny_ready (rs := [5]) (by kernel_rfl) (by simp) ?_
          refine AllReady.cons rfl (fun K hK => ?_) ?_
          · go_simp
            refine (s19_3 n r g b a z s _).mono ?_
            rintro e w2 ⟨⟨u, v, rfl⟩, hw2⟩
            obtain ⟨p0, p1, p2, p3, p4, p5, f0, f1, f2, f3, f4, q0, q1, q2, q3, q4, q5, ec, z0, z1, z2, z3, z4, z5, fe, sz⟩ := id (H1.later hw2)
            simp only [Exit.then]
            refine leaves_cons (f := 18) (args := #[.pointer (some ⟨w.heap.size + 1 + 1, 0, none⟩), .pointer (some ⟨w.heap.size + 1 + 1 + 1, 0, none⟩)]) (by simp) (by simp [go_sem]) ?_
            refine (catch_panicking (w.heap.size + 1 + 1) (w.heap.size + 1 + 1 + 1) 0 0 0 0 0 0 0 u v _ q0 z0 q1 z1 q2 z2 q3 z3 q4 z4 q5 z5 ec fe (by omega)).mono ?_
            rintro e u' w' ⟨rfl, rfl, rfl⟩
            simp [Leaves, settle, results, Try.results11, Try.f11, go_sem, q0, q1, q2, q3, q4, q5, ec]
            exact wipe_low (L1.trans (hw2.mono L1.size)) (by omega) (by omega)
          exact AllReady.nil
        exact AllReady.nil
      exact AllReady.nil
    refine AllReady.cons rfl (fun K hK => ?_) ?_
    · go_simp
      refine hK _ _ ?_
      clear hK K
      refine wpAny_ready (rs := [0, 4]) (by kernel_rfl) (by simp) ?_
      refine AllReady.cons rfl (fun K hK => ?_) ?_
      · go_simp
        refine hK _ _ ?_
        clear hK K
        refine wpAny_ready (rs := [4]) (by kernel_rfl) (by simp) ?_
        refine AllReady.cons rfl (fun K hK => ?_) ?_
        · go_simp
          refine (s13_3 n r g b a z s qa oa qb ob _ ha0 hb0 ga0 gb0).mono ?_
          rintro e w1 ⟨rfl, hw⟩
          have H1 := H0.later hw
          obtain ⟨p0, p1, p2, p3, p4, p5, f0, f1, f2, f3, f4, q0, q1, q2, q3, q4, q5, ec, z0, z1, z2, z3, z4, z5, fe, sz⟩ := id H1
          have L1 := L0.trans (hw.mono L0.size)
          refine hK _ _ ?_
          clear hK K
          refine wpAny_ready (rs := [5]) (by kernel_rfl) (by simp) ?_
          refine AllReady.cons rfl (fun K hK => ?_) ?_
          · go_simp
            refine (s19_3 n r g b a z s _).mono ?_
            rintro e w2 ⟨⟨u, v, rfl⟩, hw2⟩
            obtain ⟨p0, p1, p2, p3, p4, p5, f0, f1, f2, f3, f4, q0, q1, q2, q3, q4, q5, ec, z0, z1, z2, z3, z4, z5, fe, sz⟩ := id (H1.later hw2)
            simp only [Exit.then]
            refine leaves_cons (f := 18) (args := #[.pointer (some ⟨w.heap.size + 1 + 1, 0, none⟩), .pointer (some ⟨w.heap.size + 1 + 1 + 1, 0, none⟩)]) (by simp) (by simp [go_sem]) ?_
            refine (catch_panicking (w.heap.size + 1 + 1) (w.heap.size + 1 + 1 + 1) 0 0 0 0 0 0 0 u v _ q0 z0 q1 z1 q2 z2 q3 z3 q4 z4 q5 z5 ec fe (by omega)).mono ?_
            rintro e u' w' ⟨rfl, rfl, rfl⟩
            simp [Leaves, settle, results, Try.results11, Try.f11, go_sem, q0, q1, q2, q3, q4, q5, ec]
            exact wipe_low (L1.trans (hw2.mono L1.size)) (by omega) (by omega)
          exact AllReady.nil
        exact AllReady.nil
      refine AllReady.cons rfl (fun K hK => ?_) ?_
      · go_simp
        refine (s13_3 n r g b a z s qa oa qb ob _ ha0 hb0 ga0 gb0).mono ?_
        rintro e w1 ⟨rfl, hw⟩
        have H1 := H0.later hw
        obtain ⟨p0, p1, p2, p3, p4, p5, f0, f1, f2, f3, f4, q0, q1, q2, q3, q4, q5, ec, z0, z1, z2, z3, z4, z5, fe, sz⟩ := id H1
        have L1 := L0.trans (hw.mono L0.size)
        refine hK _ _ ?_
        clear hK K
        refine wpAny_ready (rs := [0]) (by kernel_rfl) (by simp) ?_
        refine AllReady.cons rfl (fun K hK => ?_) ?_
        · go_simp
          refine hK _ _ ?_
          clear hK K
          refine wpAny_ready (rs := [5]) (by kernel_rfl) (by simp) ?_
          refine AllReady.cons rfl (fun K hK => ?_) ?_
          · go_simp
            refine (s19_3 n r g b a z s _).mono ?_
            rintro e w2 ⟨⟨u, v, rfl⟩, hw2⟩
            obtain ⟨p0, p1, p2, p3, p4, p5, f0, f1, f2, f3, f4, q0, q1, q2, q3, q4, q5, ec, z0, z1, z2, z3, z4, z5, fe, sz⟩ := id (H1.later hw2)
            simp only [Exit.then]
            refine leaves_cons (f := 18) (args := #[.pointer (some ⟨w.heap.size + 1 + 1, 0, none⟩), .pointer (some ⟨w.heap.size + 1 + 1 + 1, 0, none⟩)]) (by simp) (by simp [go_sem]) ?_
            refine (catch_panicking (w.heap.size + 1 + 1) (w.heap.size + 1 + 1 + 1) 0 0 0 0 0 0 0 u v _ q0 z0 q1 z1 q2 z2 q3 z3 q4 z4 q5 z5 ec fe (by omega)).mono ?_
            rintro e u' w' ⟨rfl, rfl, rfl⟩
            simp [Leaves, settle, results, Try.results11, Try.f11, go_sem, q0, q1, q2, q3, q4, q5, ec]
            exact wipe_low (L1.trans (hw2.mono L1.size)) (by omega) (by omega)
          exact AllReady.nil
        exact AllReady.nil
      exact AllReady.nil
    exact AllReady.nil
  exact AllReady.nil
end Go.Proofs.Ytmadcmmkbngemaa
