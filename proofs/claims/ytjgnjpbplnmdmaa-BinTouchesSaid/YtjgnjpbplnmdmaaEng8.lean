/- Regions, codes and functions. -/
import Derived.Test.YtjgnjpbplnmdmaaEng7
import Derived.LoopN
namespace Go.Proofs.Ytjgnjpbplnmdmaa
open Go Go.RowKit

section
variable {P : Program} {cal : Callee} {o : Oper} {a : Act} {t t' : List LV} {h h' : List Row} {lim B : Nat} {C : Cx} {l : LV} {Q : Exit → Act → World → Prop}

theorem done_wp {K : Value → World → Prop} {next : Act → World → Prop} {w : World} (hd : Done P ((execOp a.eval o).run P w) K) (hk : ∀ u w', K u w' → next (a.put o.dst u) w') : o.wp P a w next Q := by
  unfold Oper.wp
  generalize (execOp a.eval o).run P w = r at *
  cases r with
  | ok n w' =>
    cases n <;> simp only [Done] at hd <;> simp only [Oper.upon]
    case value u => exact hk _ _ hd
    case skip => exact hk _ _ hd
    case enter f args => exact hd.mono fun e w'' ⟨u, he, hu⟩ => by subst he; exact hk _ _ hu
  | halt x w' => simp only [Done] at hd

/-- One operation, of whose temporaries those that it looks at are known. -/
theorem mi_any (hcal : CalOK P cal) {ops : Array Oper} {m : MI} (hm : cI P ops o = some m) {quiet : Bool} (hq : quiet = true → quietOp m.op = true) (hl : ∀ d ∈ o.looksAt ops, Conc C (getT t d) (a.tmps.getD d undef)) (hr : Rel C B h)
    (he : evMI cal quiet lim m (t, h) = some (t', h')) :
    ∃ x, t' = putD o.dst t x ∧ ((Region.wanted o (yielded ops a.tmps) = true ∧ Done P ((execOp a.eval o).run P C.w) (OpPost B lim C h quiet x h')) ∨ (Region.wanted o (yielded ops a.tmps) = false ∧ x = .u ∧ h' = h)) := by
  unfold cI at hm
  simp only [Option.bind_eq_bind, Option.bind_eq_some_iff] at hm
  obtain ⟨op, hop, hm⟩ := hm
  have hx : ∀ x ∈ o.op.operands, ∀ y, cO x = some y → Conc C (ev t y) (a.eval x) := fun x hx y hy => cO_ev x y hy fun i hi => hl i (by
    subst hi
    exact List.mem_append_left _ (List.mem_filterMap.2 ⟨.tmp i, by simpa using hx, rfl⟩))
  have main : ∀ g, m = ⟨o.dst, op, g⟩ → (wantB t g = some true → Region.wanted o (yielded ops a.tmps) = true) → (wantB t g = some false → Region.wanted o (yielded ops a.tmps) = false) →
      ∃ x, t' = putD o.dst t x ∧ ((Region.wanted o (yielded ops a.tmps) = true ∧ Done P ((execOp a.eval o).run P C.w) (OpPost B lim C h quiet x h')) ∨ (Region.wanted o (yielded ops a.tmps) = false ∧ x = .u ∧ h' = h)) := by
    intro g hmg h1 h2
    subst hmg
    simp only [evMI] at he
    split at he
    · rename_i hw
      split at he
      · rename_i x h'' hev
        simp only [Option.some.injEq, Prod.mk.injEq] at he
        obtain ⟨rfl, rfl⟩ := he
        exact ⟨x, rfl, .inl ⟨h1 hw, any_sound hcal hop hx hr hev hq⟩⟩
      · simp at he
    · rename_i hw
      simp only [Option.some.injEq, Prod.mk.injEq] at he
      obtain ⟨rfl, rfl⟩ := he
      exact ⟨.u, rfl, .inr ⟨h2 hw, rfl, rfl⟩⟩
    · simp at he
  cases hg : o.guard with
  | none =>
    simp only [hg, Option.pure_def, Option.some.injEq] at hm
    exact main none hm.symm (fun _ => by simp [Region.wanted, hg]) (fun hh => by simp [wantB] at hh)
  | some gw =>
    obtain ⟨g, want⟩ := gw
    simp only [hg] at hm
    split at hm
    · rename_i d hd
      simp only [Option.pure_def, Option.some.injEq] at hm
      have hdl : d ∈ o.looksAt ops := by simp [Oper.looksAt, hg, hd]
      have hc := hl d hdl
      have hy : yielded ops a.tmps g = match a.tmps[d]? with | some (.bool b) => some b | _ => none := by
        unfold yielded; rw [hd]; rfl
      have hgd : a.tmps.getD d undef = (a.tmps[d]?).getD undef := by simp
      refine main (some (d, want)) hm.symm (fun hh => ?_) (fun hh => ?_)
      · simp only [wantB] at hh
        split at hh
        · rename_i q hq'
          rw [hq'] at hc
          have hv := hc.v_inv
          rw [hgd] at hv
          have : a.tmps[d]? = some (.bool q) := by
            cases hta : a.tmps[d]? with
            | none => rw [hta] at hv; simp [undef] at hv
            | some z => rw [hta] at hv; simp at hv; rw [hv]
          simp only [Region.wanted, hg, hy, this]
          simpa using hh
        · simp at hh
        · simp at hh
      · simp only [wantB] at hh
        split at hh
        · rename_i q hq'
          rw [hq'] at hc
          have hv := hc.v_inv
          rw [hgd] at hv
          have : a.tmps[d]? = some (.bool q) := by
            cases hta : a.tmps[d]? with
            | none => rw [hta] at hv; simp [undef] at hv
            | some z => rw [hta] at hv; simp at hv; rw [hv]
          simp only [Region.wanted, hg, hy, this]
          simpa using hh
        · rename_i z hz hq'
          rw [hq'] at hc
          have hv := hc.v_inv
          rw [hgd] at hv
          have : (match a.tmps[d]? with | some (.bool b) => some b | _ => none) = none := by
            cases hta : a.tmps[d]? with
            | none => rfl
            | some y =>
              rw [hta] at hv
              simp at hv
              subst hv
              cases y <;> first | rfl | exact (hz _ rfl).elim
          simp only [Region.wanted, hg, hy, this]
          rfl
        · simp at hh
    · simp at hm

/-- What stands behind a piece of code. -/
def StPost (B lim : Nat) (C : Cx) (s : St) (a' : Act) (w' : World) : Prop :=
  ∃ C' : Cx, C'.w = w' ∧ TmpR C' s.1 a' ∧ Rel C' B s.2 ∧ Le B C C' ∧ Fr lim C C' ∧ a'.defers = []

theorem StPost.trans {C' : Cx} {s : St} {a' : Act} {w' : World} (h1 : Le B C C') (h2 : Fr lim C C') (h : StPost B lim C' s a' w') : StPost B lim C s a' w' := by
  obtain ⟨D, e1, e2, e3, e4, e5, e6⟩ := h
  exact ⟨D, e1, e2, e3, h1.trans e4, h2.trans e5, e6⟩

theorem put_defers (a : Act) (d : Option Tmp) (u : Value) : (a.put d u).defers = a.defers := by cases d <;> rfl

/-- Operations, one behind the other. -/
theorem ops_list (hcal : CalOK P cal) {ops : Array Oper} : ∀ (l : List Oper) (ms : List MI) (t : List LV) (h : List Row) (a : Act) (C : Cx) (s : St), mapO (cI P ops) l = some ms → evOps cal false lim ms (t, h) = some s →
    TmpR C t a → Rel C B h → a.defers = [] → (∀ a' w', StPost B lim C s a' w' → Q .normal a' w') → wpList P ops Q l a C.w
  | [], ms, t, h, a, C, s, hm, he, ht, hr, hd, hQ => by
    simp [mapO] at hm
    subst hm
    simp [evOps] at he
    subst he
    exact hQ _ _ ⟨C, rfl, ht, hr, Le.refl _ _, Fr.refl _ _, hd⟩
  | o :: l, ms, t, h, a, C, s, hm, he, ht, hr, hd, hQ => by
    unfold mapO at hm
    split at hm
    · rename_i m ms' h1 h2
      simp at hm
      subst hm
      simp only [evOps] at he
      split at he
      · rename_i s1 hs1
        obtain ⟨t1, h1'⟩ := s1
        obtain ⟨x, hx1, hx2⟩ := mi_any (o := o) (a := a) (C := C) (B := B) (quiet := false) hcal h1 (fun hh => by simp at hh) (fun d _ => ht.2 d) hr hs1
        subst hx1
        unfold wpList
        rcases hx2 with ⟨hw, hdn⟩ | ⟨hw, rfl, rfl⟩
        · rw [if_pos hw]
          refine .inl (done_wp hdn fun u w' hp => ?_)
          obtain ⟨C', rfl, c1, c2, c3, c4, _⟩ := hp
          exact ops_list hcal l ms' _ _ _ C' s h2 he ((ht.mono c3).put o.dst c1) c2 (by rw [put_defers]; exact hd) fun a' w' hst => hQ a' w' (hst.trans c3 c4)
        · rw [if_neg (by simp [hw])]
          exact ops_list hcal l ms' _ _ _ C s h2 he (ht.put o.dst (.v _)) hr (by rw [put_defers]; exact hd) hQ
      · simp at he
    · simp at hm
end
end Go.Proofs.Ytjgnjpbplnmdmaa
