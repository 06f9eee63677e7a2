/- Asking, as an answer that is given: the table of functions with it. -/
import Derived.Test.YtmadcmmkbngemaaIA43
set_option linter.unusedSimpArgs false
set_option linter.unusedVariables false
set_option maxRecDepth 100000
set_option maxHeartbeats 4000000
namespace Go.Proofs.Ytmadcmmkbngemaa
open Go Go.RowKit
def px (r g b a z s : Int) : LV := .agg [.i r, .i g, .i b, .i a, .i z, .i s]
def fr0 : LV := .agg [.i 0, .i 0, .i 0, .i 0, .i 0]
/-- An int in a row. -/
def rdI (h : List Row) (k ver off : Nat) : Option Int := match rowOf h k ver with
  | some cs => match cs[off]? with
    | some (.v (.int .i64 x)) => some x
    | _ => none
  | none => none
/-- An int that is pointed to. -/
def rdQ (h : List Row) : LV → Option Int
  | .p k ver off => rdI h k ver off
  | .pi (.v (.int .i64 x) :: _) => some x
  | _ => none
def tell (r g b a z s : Int) : LV := if Rx r g b a z s = true then .tup [px r g b a z s, .i 0] else .tup [px 0 0 0 0 0 0, .i 3]
def ansA (kind n r g b a z s : Int) : Option LV :=
  if kind = 0 then some (tell r g b a n s) else if kind = 1 then some (tell n 0 0 0 z s) else if kind = 2 then some (tell r g b a z n)
  else if kind = 3 then some (.tup [px 0 0 0 0 0 0, .i 14]) else if kind = 4 then some (.tup [px 0 0 0 0 0 0, .i 14]) else none
def askO : List LV → List Row → Nat → Option (LV × List Row)
  | [.ifc 31 (.f 14 [pa, pb]), .agg [.v (.int .i64 r), .v (.int .i64 g), .v (.int .i64 b), .v (.int .i64 a), .v (.int .i64 z), .v (.int .i64 s)], .agg [.v (.int .i64 0), .v (.int .i64 0), .v (.int .i64 0), .v (.int .i64 0), .v (.int .i64 0)]], h, _ =>
    match rdQ h pa, rdQ h pb with
    | some kind, some n => (ansA kind n r g b a z s).map fun x => (x, h)
    | _, _ => none
  | [.v .nilIface, .agg [.v (.int .i64 r), .v (.int .i64 g), .v (.int .i64 b), .v (.int .i64 a), .v (.int .i64 z), .v (.int .i64 s)], .agg [.v (.int .i64 0), .v (.int .i64 0), .v (.int .i64 0), .v (.int .i64 0), .v (.int .i64 0)]], h, _ => some (.tup [px 0 0 0 0 0 0, .i 1], h)
  | _, _, _ => none
theorem rdI_spec {C : Cx} {B : Nat} {h : List Row} {k ver off : Nat} {x : Int} {u : Value} (hr : Rel C B h) (hd : rdI h k ver off = some x) (hc : Conc C (.p k ver off) u) :
    ∃ b o, u = .pointer (some ⟨b, o, none⟩) ∧ C.w.cell? ⟨b, o, none⟩ = some (.int .i64 x) ∧ b < C.w.heap.size := by
  unfold rdI at hd
  split at hd
  · rename_i cs hrow
    split at hd
    · rename_i y hcs
      simp only [Option.some.injEq] at hd
      subst hd
      obtain ⟨b, o, us, ty, rfl, -, -, -, -, h1, -, h2⟩ := Conc.p_inv hr hc hrow
      obtain ⟨u, h3, h4⟩ := h2 off _ hcs
      have h5 := Conc.v_inv h4
      subst h5
      refine ⟨b, o + off, rfl, ?_, (Array.getElem?_eq_some_iff.1 h1).1⟩
      unfold World.cell?
      simp [h1, h3]
    · cases hd
  · cases hd
theorem rdQ_spec {C : Cx} {B : Nat} {h : List Row} {p : LV} {x : Int} {u : Value} (hr : Rel C B h) (hd : rdQ h p = some x) (hc : Conc C p u) :
    ∃ b o, u = .pointer (some ⟨b, o, none⟩) ∧ C.w.cell? ⟨b, o, none⟩ = some (.int .i64 x) ∧ b < C.w.heap.size := by
  unfold rdQ at hd
  split at hd
  · exact rdI_spec hr hd hc
  · rename_i y rest
    simp only [Option.some.injEq] at hd
    subst hd
    obtain ⟨b, o, us, rfl, h1, h2⟩ := Conc.pi_inv hc
    have h3 := (h1 0 _ rfl).2.2
    have h4 := Conc.v_inv (h2 0 _ rfl)
    rw [h4] at h3
    exact ⟨b, o, rfl, h3, World.block_lt_of_cell? _ _ h3⟩
  · cases hd
theorem conc_px (C : Cx) (r g b a z s : Int) : Conc C (px r g b a z s) (.agg #[.int .i64 r, .int .i64 g, .int .i64 b, .int .i64 a, .int .i64 z, .int .i64 s]) := .agg rfl (conc_ints _ [r, g, b, a, z, s])
theorem conc_pair {C : Cx} {x y : LV} {u v : Value} (h1 : Conc C x u) (h2 : Conc C y v) : Conc C (.tup [x, y]) (.tuple #[u, v]) :=
  .tup (us := [u, v]) rfl fun i c w h3 h4 => by
    match i with
    | 0 => simp at h3 h4; subst h3; subst h4; exact h1
    | 1 => simp at h3 h4; subst h3; subst h4; exact h2
    | i + 2 => simp at h3
theorem conc_px_inv {C : Cx} {r g b a z s : Int} {u : Value} (h : Conc C (px r g b a z s) u) : u = .agg #[.int .i64 r, .int .i64 g, .int .i64 b, .int .i64 a, .int .i64 z, .int .i64 s] := by
  obtain ⟨us, rfl, hl, hc⟩ := Conc.agg_inv h
  match us, hl, hc with
  | [a0, a1, a2, a3, a4, a5], _, hc =>
    rw [Conc.v_inv (hc 0 _ _ rfl rfl), Conc.v_inv (hc 1 _ _ rfl rfl), Conc.v_inv (hc 2 _ _ rfl rfl), Conc.v_inv (hc 3 _ _ rfl rfl), Conc.v_inv (hc 4 _ _ rfl rfl), Conc.v_inv (hc 5 _ _ rfl rfl)]
theorem conc_fr_inv {C : Cx} {u : Value} (h : Conc C fr0 u) : u = .agg #[.int .i64 0, .int .i64 0, .int .i64 0, .int .i64 0, .int .i64 0] := by
  obtain ⟨us, rfl, hl, hc⟩ := Conc.agg_inv h
  match us, hl, hc with
  | [a0, a1, a2, a3, a4], _, hc =>
    rw [Conc.v_inv (hc 0 _ _ rfl rfl), Conc.v_inv (hc 1 _ _ rfl rfl), Conc.v_inv (hc 2 _ _ rfl rfl), Conc.v_inv (hc 3 _ _ rfl rfl), Conc.v_inv (hc 4 _ _ rfl rfl)]
/-- A call that turns nothing, as an answer. -/
theorem orc_of {C : Cx} {B : Nat} {h : List Row} {lim : Nat} {g : FuncId} {args : Array Value} {r : LV} {v : Value} (hr : Rel C B h) (hk : Calls Try.prog g args C.w fun e w' => e = .returned v ∧ Below C.w.heap.size C.w w') (hc : ∀ w', Conc { C with w := w' } r v) :
    Calls Try.prog g args C.w (fun e w' => ∃ C' u, C'.w = w' ∧ e = .returned u ∧ Conc C' r u ∧ Rel C' B h ∧ Le B C C' ∧ Fr lim C C') :=
  hk.mono fun e w' ⟨h1, h2⟩ => ⟨{ C with w := w' }, v, rfl, h1, hc w', hr.grow h2, Le.grow hr.size h2, Fr.grow rfl h2⟩
theorem conc_tell (C : Cx) (r g b a z s : Int) : Conc C (tell r g b a z s) (if Rx r g b a z s = true then .tuple #[.agg #[.int .i64 r, .int .i64 g, .int .i64 b, .int .i64 a, .int .i64 z, .int .i64 s], .int .i64 0] else .tuple #[.agg #[.int .i64 0, .int .i64 0, .int .i64 0, .int .i64 0, .int .i64 0, .int .i64 0], .int .i64 3]) := by
  unfold tell
  split
  · exact conc_pair (conc_px _ _ _ _ _ _ _) (.v _)
  · exact conc_pair (conc_px _ _ _ _ _ _ _) (.v _)
theorem askO_ok : OrcOk Try.prog 11 askO := by
  intro args h lim x h' hf
  refine ⟨⟨Try.f11, Try.func11, rfl, by decide⟩, fun C B us hc hr => ?_⟩
  unfold askO at hf
  split at hf
  · rename_i pa pb r g b a z s
    match us, hc with
    | [u0, u1, u2], hc =>
      have c0 := hc.2 0 _ _ rfl rfl
      have e1 := conc_px_inv (hc.2 1 _ _ rfl rfl)
      have e2 := conc_fr_inv (hc.2 2 _ _ rfl rfl)
      subst e1; subst e2
      cases c0 with
      | ifc c0 =>
        cases c0 with
        | f hl hcap =>
          rename_i vs
          match vs, hl, hcap with
          | [v0, v1], _, hcap =>
            have k0 := hcap 0 _ _ rfl rfl
            have k1 := hcap 1 _ _ rfl rfl
            split at hf
            · rename_i kind n ra rb
              obtain ⟨qa, oa', rfl, ca, la⟩ := rdQ_spec hr ra k0
              obtain ⟨qb, ob', rfl, cb, lb⟩ := rdQ_spec hr rb k1
              simp only [Option.map_eq_some_iff, ansA] at hf
              obtain ⟨y, hy, hyx⟩ := hf
              simp only [Prod.mk.injEq] at hyx
              obtain ⟨rfl, rfl⟩ := hyx
              by_cases h0 : kind = 0
              · subst h0
                simp only [if_true, Option.some.injEq] at hy
                subst hy
                exact orc_of hr (ask_0 n r g b a z s qa oa' qb ob' C.w ca cb la lb _ (right_calls _ _ _ _ _ _)) fun w' => conc_tell _ _ _ _ _ _ _
              rw [if_neg h0] at hy
              by_cases h1 : kind = 1
              · subst h1
                simp only [if_true, Option.some.injEq] at hy
                subst hy
                exact orc_of hr (ask_1 n r g b a z s qa oa' qb ob' C.w ca cb la lb _ (right_calls _ _ _ _ _ _)) fun w' => conc_tell _ _ _ _ _ _ _
              rw [if_neg h1] at hy
              by_cases h2 : kind = 2
              · subst h2
                simp only [if_true, Option.some.injEq] at hy
                subst hy
                exact orc_of hr (ask_2 n r g b a z s qa oa' qb ob' C.w ca cb la lb _ (right_calls _ _ _ _ _ _)) fun w' => conc_tell _ _ _ _ _ _ _
              rw [if_neg h2] at hy
              by_cases h3 : kind = 3
              · subst h3
                simp only [if_true, Option.some.injEq] at hy
                subst hy
                exact orc_of hr (ask_3 n r g b a z s qa oa' qb ob' C.w ca cb la lb) fun w' => conc_pair (conc_px _ _ _ _ _ _ _) (.v _)
              rw [if_neg h3] at hy
              by_cases h4 : kind = 4
              · subst h4
                simp only [if_true, Option.some.injEq] at hy
                subst hy
                exact orc_of hr (ask_4 n r g b a z s qa oa' qb ob' C.w ca cb la lb) fun w' => conc_pair (conc_px _ _ _ _ _ _ _) (.v _)
              · rw [if_neg h4] at hy; cases hy
            · cases hf
  · rename_i r g b a z s
    match us, hc with
    | [u0, u1, u2], hc =>
      have e0 := Conc.v_inv (hc.2 0 _ _ rfl rfl)
      have e1 := conc_px_inv (hc.2 1 _ _ rfl rfl)
      have e2 := conc_fr_inv (hc.2 2 _ _ rfl rfl)
      subst e0; subst e1; subst e2
      simp only [Option.some.injEq, Prod.mk.injEq] at hf
      obtain ⟨rfl, rfl⟩ := hf
      exact orc_of hr (ask_nil r g b a z s C.w) fun w' => conc_pair (conc_px _ _ _ _ _ _ _) (.v _)
  · cases hf
/-- A shader of a kind, as an answer: what it has captured is what it was made of. -/
def shO : List LV → List Row → Nat → Option (LV × List Row)
  | [.v (.int .i64 kind), .v (.int .i64 n)], h, _ => some (.f 14 [.pi [.i kind], .pi [.i n]], h)
  | _, _, _ => none
theorem sh_calls (kind n : Int) (w : World) : Calls Try.prog 8 #[.int .i64 kind, .int .i64 n] w fun e w' => e = .returned (.func (.func 14) #[] #[.pointer (some ⟨w.heap.size, 0, none⟩), .pointer (some ⟨w.heap.size + 1, 0, none⟩)]) ∧ w' = (w.alloc (.cells #[.int .i64 kind] 3)).alloc (.cells #[.int .i64 n] 3) := by
  have hmf : ∀ (fn : Fn) (first cap : Array Value) (w : World), (Instr.makeFunc fn first cap).run Try.prog w = .ok (.func fn first cap) w := fun _ _ _ _ => rfl
  go_enter Try.func8, Try.ntmps8
  go_wp2
  go_ret
  exact ⟨rfl, rfl⟩
theorem shO_ok : OrcOk Try.prog 8 shO := by
  intro args h lim x h' hf
  refine ⟨⟨Try.f8, Try.func8, rfl, by decide⟩, fun C B us hc hr => ?_⟩
  unfold shO at hf
  split at hf
  · rename_i kind n
    match us, hc with
    | [u0, u1], hc =>
      have e0 := Conc.v_inv (hc.2 0 _ _ rfl rfl)
      have e1 := Conc.v_inv (hc.2 1 _ _ rfl rfl)
      subst e0; subst e1
      simp only [Option.some.injEq, Prod.mk.injEq] at hf
      obtain ⟨rfl, rfl⟩ := hf
      refine (sh_calls kind n C.w).mono ?_
      rintro e w' ⟨rfl, rfl⟩
      have hb : Below C.w.heap.size C.w ((C.w.alloc (.cells #[.int .i64 kind] 3)).alloc (.cells #[.int .i64 n] 3)) := ((Below.refl _ _).alloc (Nat.le_refl _) _).alloc (by simp) _
      refine ⟨{ C with w := _ }, _, rfl, rfl, ?_, hr.grow hb, Le.grow hr.size hb, Fr.grow rfl hb⟩
      have ce0 : ((C.w.alloc (.cells #[.int .i64 kind] 3)).alloc (.cells #[.int .i64 n] 3)).cell? ⟨C.w.heap.size, 0, none⟩ = some (.int .i64 kind) := by simp [go_sem]
      have ce1 : ((C.w.alloc (.cells #[.int .i64 kind] 3)).alloc (.cells #[.int .i64 n] 3)).cell? ⟨C.w.heap.size + 1, 0, none⟩ = some (.int .i64 n) := by simp [go_sem]
      have no1 : ∀ b, C.w.heap.size ≤ b → ¬ C.own b ∧ ¬ C.X b := fun b hbb => ⟨fun ho => by have := hr.own_lt ho; omega, fun hx => by have := (hr.X b hx).1; omega⟩
      refine Conc.f (us := [.pointer (some ⟨C.w.heap.size, 0, none⟩), .pointer (some ⟨C.w.heap.size + 1, 0, none⟩)]) rfl fun i c u h1 h2 => ?_
      match i with
      | 0 =>
        simp at h1 h2; subst h1; subst h2
        refine Conc.pi (fun _ => .int .i64 kind) (fun i e he => ?_) (fun i e he => ?_)
        · match i with
          | 0 => exact ⟨(no1 _ (Nat.le_refl _)).1, (no1 _ (Nat.le_refl _)).2, ce0⟩
          | i + 1 => simp at he
        · match i with
          | 0 => simp at he; subst he; exact .v _
          | i + 1 => simp at he
      | 1 =>
        simp at h1 h2; subst h1; subst h2
        refine Conc.pi (fun _ => .int .i64 n) (fun i e he => ?_) (fun i e he => ?_)
        · match i with
          | 0 => exact ⟨(no1 _ (Nat.le_succ _)).1, (no1 _ (Nat.le_succ _)).2, ce1⟩
          | i + 1 => simp at he
        · match i with
          | 0 => simp at he; subst he; exact .v _
          | i + 1 => simp at he
      | i + 2 => simp at h1
  · cases hf
/-- The table with them. -/
def cm2 (g : FuncId) : Option ME := if g = 11 then some (.o askO) else if g = 8 then some (.o shO) else cm g
theorem hcm2 : ∀ g m, cm2 g = some m → Good Try.prog g m := by
  intro g m h
  unfold cm2 at h
  split at h
  · rename_i e
    subst e
    simp only [Option.some.injEq] at h
    subst h
    exact askO_ok
  · split at h
    · rename_i e
      subst e
      simp only [Option.some.injEq] at h
      subst h
      exact shO_ok
    · exact hcm g m h
theorem e6 (k : Nat) : evP (evF cm2 (k + 100)) 6 [] = some (.b true) := by kernel_rfl
end Go.Proofs.Ytmadcmmkbngemaa
