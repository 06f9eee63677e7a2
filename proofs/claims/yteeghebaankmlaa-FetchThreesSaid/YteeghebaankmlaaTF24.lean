/- Vertices, three by three: a round. -/
import Derived.Test.YteeghebaankmlaaTE24
set_option linter.unusedSimpArgs false
set_option linter.unusedVariables false
set_option maxRecDepth 100000
set_option maxHeartbeats 4000000
namespace Go.Proofs.Yteeghebaankmlaa
open Go Go.RowKit Go.Shelf
theorem getT_set_eq : ∀ {t : List LV} {i : Nat} {x : LV}, i < t.length → getT (t.set i x) i = x
  | [], _, _, h => by simp at h
  | _ :: _, 0, _, _ => rfl
  | _ :: t, i + 1, x, h => by
    show getT (t.set i x) i = x
    exact getT_set_eq (by simpa using h)
theorem getT_set_ne : ∀ {t : List LV} {i j : Nat} {x : LV}, i ≠ j → getT (t.set i x) j = getT t j
  | [], _, _, _, _ => rfl
  | _ :: _, 0, 0, _, h => absurd rfl h
  | _ :: _, 0, j + 1, _, _ => rfl
  | _ :: _, i + 1, 0, _, _ => rfl
  | _ :: t, i + 1, j + 1, x, h => by
    show getT (t.set i x) j = getT t j
    exact getT_set_ne (by omega)
theorem getT_bad : ∀ (n j : Nat), getT (List.replicate n LV.bad) j = .bad
  | 0, _ => rfl
  | n + 1, 0 => rfl
  | n + 1, j + 1 => by
    show getT (List.replicate n LV.bad) j = _
    exact getT_bad n j
theorem tmp_set {C : Cx} {t : List LV} {a : Act} (ht : TmpR C t a) {i : Nat} {x : LV} (hi : i < t.length) (hx : Conc C x (a.tmps.getD i undef)) : TmpR C (t.set i x) a := by
  refine ⟨by rw [List.length_set]; exact ht.1, fun j => ?_⟩
  by_cases h : i = j
  · subst h; rw [getT_set_eq hi]; exact hx
  · rw [getT_set_ne h]; exact ht.2 j
theorem tmp_bad (C : Cx) (a : Act) (h : a.tmps.size = 75) : TmpR C (List.replicate 75 .bad) a := by
  refine ⟨by rw [List.length_replicate]; exact h.symm, fun j => ?_⟩
  rw [getT_bad]; exact .bad _
theorem T0_eq (l : LV) : T0 l = (((((List.replicate 75 LV.bad).set 4 (.p 0 0 0)).set 8 (.p 1 0 0)).set 9 (.p 2 0 0)).set 10 (.p 3 0 0)).set 11 l := rfl
theorem plain6 : plainC rb6 = true := by kernel_rfl
/-- What the temporaries must be. -/
structure ActAt (n bi o : Nat) (a : Act) : Prop where
  sz : a.tmps.size = 75
  t4 : a.tmps.getD 4 undef = .pointer (some ⟨n, 0, none⟩)
  t8 : a.tmps.getD 8 undef = .pointer (some ⟨n + 1, 0, none⟩)
  t9 : a.tmps.getD 9 undef = .pointer (some ⟨n + 2, 0, none⟩)
  t10 : a.tmps.getD 10 undef = .pointer (some ⟨n + 3, 0, none⟩)
  t11 : a.tmps.getD 11 undef = .slice (some ⟨bi, o, none⟩) 3 3
  df : a.defers = []
theorem round_ok (w : World) (V : LV) (vl : List Int) (nv : Nat) (g : Nat → Int) (m : Nat) (hV : SlE 9 nv vl V) (bi oi : Nat) (hbi : bi < w.heap.size) (hidx : ∀ j, j < 3 * m → w.cell? ⟨bi, oi + j, none⟩ = some (.int .i64 (g j))) (l k B : Nat) (pre : List (Fin m)) (x : Fin m) (W : World) (a : Act) (ha : ActAt w.heap.size bi (oi + 3 * x.1) a) (hI : Inv w V vl nv g m pre W) (hlt : pre.length < m) (hm : m ≤ 2000) :
    rb6.wpIn (FR l) k Try.prog (ownPostG B (KpC (w.heap.size + 4) (w.heap.size + 5)) (Inv w V vl nv g m) (InvX w nv g m) (pre ++ [x]) W) a W := by
  obtain ⟨⟨C, h, ko, A, H⟩, hb, hs, ho⟩ := hI
  have hw := A.w
  subst hw
  have hbo : ¬ C.own bi := by
    rintro ⟨q, o, e⟩
    have hlt : q < h.length := by rw [← A.rel.len]; exact (List.getElem?_eq_some_iff.1 e).1
    have := (A.rel.row q bi o _ e (List.getElem?_eq_getElem hlt)).1
    omega
  have hX : ¬ C.X bi := by rw [A.X]; exact fun h => h
  have v0 := row_ver A.rel H.r0
  have v1 := row_ver A.rel H.r1
  have v2 := row_ver A.rel H.r2
  have v3 := row_ver A.rel H.r3
  have hp : ∀ {q b : Nat}, C.ρ[q]? = some (some (b, 0)) → C.vs[q]? = some 0 → Conc C (.p q 0 0) (.pointer (some ⟨b, 0, none⟩)) := fun h1 h2 => Conc.p (off := 0) h1 h2
  have hcell : ∀ j, j < 3 → C.w.cell? ⟨bi, oi + 3 * x.1 + j, none⟩ = some (.int .i64 (g (3 * x.1 + j))) := fun j hj => by
    have hx := x.2
    have := (hb.cell (p := ⟨bi, oi + (3 * x.1 + j), none⟩) hbi).trans (hidx (3 * x.1 + j) (by omega))
    rw [show oi + 3 * x.1 + j = oi + (3 * x.1 + j) by omega]; exact this
  have him : Conc C (.im [.i (g (3 * x.1)), .i (g (3 * x.1 + 1)), .i (g (3 * x.1 + 2))] 3 true) (.slice (some ⟨bi, oi + 3 * x.1, none⟩) 3 3) := by
    refine Conc.im (fun j => .int .i64 (g (3 * x.1 + j))) (Nat.le_refl _) (fun _ => rfl) (fun j e he => ⟨hbo, hX, hcell j ?_⟩) (fun j e he => ?_)
    · have := (List.getElem?_eq_some_iff.1 he).1; simpa using this
    · match j with
      | 0 => simp at he; subst he; exact .v _
      | 1 => simp at he; subst he; exact .v _
      | 2 => simp at he; subst he; exact .v _
      | j + 3 => simp at he
  have ht : TmpR C (T0 (.im [.i (g (3 * x.1)), .i (g (3 * x.1 + 1)), .i (g (3 * x.1 + 2))] 3 true)) a := by
    rw [T0_eq]
    refine tmp_set (tmp_set (tmp_set (tmp_set (tmp_set (tmp_bad C a ha.sz) (by simp) ?_) (by simp) ?_) (by simp) ?_) (by simp) ?_) (by simp) ?_
    · rw [ha.t4]; exact hp A.p0 v0
    · rw [ha.t8]; exact hp A.p1 v1
    · rw [ha.t9]; exact hp A.p2 v2
    · rw [ha.t10]; exact hp A.p3 v3
    · rw [ha.t11]; exact him
  have hmo : Try.prog.follows .mixedOrders = true := by kernel_rfl
  have hcal := evF_ok hcm hmo 5
  have go : ∀ e s', evCode (evF cm 5) 15 0 cB (T0 (.im [.i (g (3 * x.1)), .i (g (3 * x.1 + 1)), .i (g (3 * x.1 + 2))] 3 true), h) = some (e, s') → rb6.wpIn (FR l) k Try.prog (CodePost w.heap.size 0 C e s') a C.w := fun e s' he => by
    rw [← cB_ok] at he
    exact code_soundR (B := w.heap.size) (l := l) (m := k) hcal hmo rb6 plain6 _ _ _ _ _ he ht A.rel ha.df
  have keep : ∀ C', Fr 0 C C' → KeepsFrom B C.w C'.w ∧ KpC (w.heap.size + 4) (w.heap.size + 5) C.w C'.w := fun C' hf =>
    ⟨fr_keeps A.rel hf B, hf.same _ (by omega) (fun q o _ e => A.n4 ⟨q, o, e⟩), hf.same _ (by omega) (fun q o _ e => A.n5 ⟨q, o, e⟩)⟩
  by_cases hok : okI nv g x.1
  · have hok' := hok
    obtain ⟨⟨a1, a2⟩, ⟨b1, b2⟩, ⟨c1, c2⟩⟩ := hok
    obtain ⟨T', h', ko', e1, H'⟩ := body_ok hV 5 h ko pre.length _ H (by omega) (g (3 * x.1)).toNat (g (3 * x.1 + 1)).toNat (g (3 * x.1 + 2)).toNat (by omega) (by omega) (by omega)
    rw [Int.toNat_of_nonneg a1, Int.toNat_of_nonneg b1, Int.toNat_of_nonneg c1] at e1
    refine Code.wpIn_mono ?_ (go _ _ e1)
    rintro e' a' W' ⟨rfl, C', rfl, _, hr', hle, hfr, _⟩
    obtain ⟨k1, k2⟩ := keep C' hfr
    refine ⟨k1, k2, ⟨⟨C', h', ko', ⟨rfl, hle.X.trans A.X, keep_row A.rel hr' hle H.r0 H'.r0 A.p0, keep_row A.rel hr' hle H.r1 H'.r1 A.p1, keep_row A.rel hr' hle H.r2 H'.r2 A.p2, ?_, fr_own hfr (by omega) A.n4, fr_own hfr (by omega) A.n5, hr'⟩, ?_⟩, hb.trans hle.below, Nat.le_trans hs hle.below.size, ?_⟩⟩
    · exact keep_row A.rel hr' hle H.r3 H'.r3 A.p3
    · rw [List.length_append, cellsP_app]; exact H'
    · intro y hy
      rcases List.mem_append.1 hy with hy | hy
      · exact ho y hy
      · simp only [List.mem_singleton] at hy
        subst hy; exact hok'
  · obtain ⟨T', h', e1, r1, r2⟩ := body_bad hV 5 h ko pre.length _ H (g (3 * x.1)) (g (3 * x.1 + 1)) (g (3 * x.1 + 2)) (by unfold okI at hok; omega)
    refine Code.wpIn_mono ?_ (go _ _ e1)
    rintro e' a' W' ⟨rfl, C', rfl, _, hr', hle, hfr, _⟩
    obtain ⟨k1, k2⟩ := keep C' hfr
    obtain ⟨u1, q1, q2⟩ := row_cell (i := 0) hr' r1 (keep_row A.rel hr' hle H.r1 r1 A.p1) rfl
    obtain ⟨u2, q3, q4⟩ := row_cell (i := 0) hr' r2 (keep_row A.rel hr' hle H.r2 r2 A.p2) rfl
    have z1 := Conc.v_inv q2
    have z2 := Conc.v_inv q4
    subst z1; subst z2
    exact ⟨k1, rfl, ⟨x, hok⟩, q1, q3, hb.trans hle.below⟩
end Go.Proofs.Yteeghebaankmlaa
