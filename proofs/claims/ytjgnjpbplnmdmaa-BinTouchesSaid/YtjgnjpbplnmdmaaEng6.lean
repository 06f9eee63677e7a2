/- Whatever operation that calls nothing. -/
import Derived.Test.YtjgnjpbplnmdmaaEngD
namespace Go.Proofs.Ytjgnjpbplnmdmaa
open Go Go.RowKit

section
variable {P : Program} {o : Oper} {a : Act} {t : List LV} {h h' : List Row} {lim B : Nat} {C : Cx} {l : LV}

theorem Done.loosen {q : Bool} {r : Result Next} (hd : Done P r (OpPost B lim C h true l h')) : Done P r (OpPost B lim C h q l h') :=
  hd.mono fun _ _ ⟨C', h1, h2, h3, h4, h6, h5⟩ => ⟨C', h1, h2, h3, h4, h6, fun _ => h5 rfl⟩

theorem op_sound0 {m : MOp} (hm : cOp0 P o = some m) (hx : ∀ x ∈ o.op.operands, ∀ y, cO x = some y → Conc C (ev t y) (a.eval x)) (hr : Rel C B h)
    (he : evOp m t h lim = some (l, h')) : Done P ((execOp a.eval o).run P C.w) (OpPost B lim C h (quietOp m) l h') := by
  cases ho : o.op <;> simp only [cOp0, ho] at hm <;> simp only [ho, Op.operands] at hx <;> try (simp at hm; done)
  case move x =>
    simp only [Option.map_eq_some_iff] at hm
    obtain ⟨y, hy, rfl⟩ := hm
    exact sound_mv (.inl ho) (hx x (by simp) y hy) hr he
  case assign x =>
    simp only [Option.map_eq_some_iff] at hm
    obtain ⟨y, hy, rfl⟩ := hm
    exact sound_mv (.inr ho) (hx x (by simp) y hy) hr he
  case pick c x y =>
    simp only [Option.bind_eq_bind, Option.bind_eq_some_iff, Option.pure_def, Option.some.injEq] at hm
    obtain ⟨mc, h1, mx, h2, my, h3, rfl⟩ := hm
    exact sound_pick ho (hx c (by simp) mc h1) (hx x (by simp) mx h2) (hx y (by simp) my h3) hr he
  case alloc ty =>
    simp only [Option.map_eq_some_iff] at hm
    obtain ⟨z, hz, rfl⟩ := hm
    exact sound_alloc ho hz hr he
  case box ty x =>
    simp only [Option.map_eq_some_iff] at hm
    obtain ⟨y, hy, rfl⟩ := hm
    exact sound_box ho (hx x (by simp) y hy) hr he
  case build ty ps =>
    have hps : ∀ p ∈ ps.toList, ∀ y, cO p.2 = some y → Conc C (ev t y) (a.eval p.2) := fun p hp y hy => hx p.2 (by simpa using ⟨p.1, by simpa using hp⟩) y hy
    split at hm
    · rename_i fs hu
      split at hm
      · rename_i z pl hz hpl
        simp only [Option.map_eq_some_iff] at hm
        obtain ⟨ms, hms, rfl⟩ := hm
        exact sound_bldS ho hu hz hpl hms hps hr he
      · simp at hm
    · rename_i n e hu
      split at hm
      · rename_i z n hz hn
        simp only [Option.map_eq_some_iff] at hm
        obtain ⟨ms, hms, rfl⟩ := hm
        exact sound_bldA ho hu hz hn hms hps hr he
      · simp at hm
    · simp at hm
  case buildSlice ty len ps =>
    have hps : ∀ p ∈ ps.toList, ∀ y, cO p.2 = some y → Conc C (ev t y) (a.eval p.2) := fun p hp y hy => hx p.2 (by simpa using ⟨p.1, by simpa using hp⟩) y hy
    split at hm
    · rename_i e hu
      split at hm
      · rename_i z n hz hn
        split at hm
        · rename_i hc
          simp only [Option.map_eq_some_iff] at hm
          obtain ⟨ms, hms, rfl⟩ := hm
          exact sound_bsl ho hu hz hn hms hc.1 hc.2.1 hc.2.2 hps hr he
        · simp at hm
      · simp at hm
    · simp at hm
  case load ty x =>
    simp only [Option.bind_eq_bind, Option.bind_eq_some_iff, Option.pure_def, Option.some.injEq] at hm
    obtain ⟨y, hy, n, hn, rfl⟩ := hm
    exact sound_load ho hn (hx x (by simp) y hy) hr he
  case store ty x y =>
    simp only [Option.bind_eq_bind, Option.bind_eq_some_iff, Option.pure_def, Option.some.injEq] at hm
    obtain ⟨mx, h1, my, h2, n, hn, rfl⟩ := hm
    exact sound_store ho hn (hx x (by simp) mx h1) (hx y (by simp) my h2) hr he
  case nilCheck x =>
    simp only [Option.map_eq_some_iff] at hm
    obtain ⟨y, hy, rfl⟩ := hm
    exact sound_nilc ho (hx x (by simp) y hy) hr he
  case fieldAddr s x i =>
    split at hm
    · rename_i fs hu
      simp only [Option.bind_eq_bind, Option.bind_eq_some_iff, Option.pure_def] at hm
      obtain ⟨f, hf, n, hn, hm⟩ := hm
      split at hm
      · simp at hm
      · rename_i hn0
        simp only [Option.bind_eq_some_iff, Option.some.injEq] at hm
        obtain ⟨y, hy, rfl⟩ := hm
        exact sound_fa ho hu hf hn hn0 (hx x (by simp) y hy) hr he
    · simp at hm
  case field s x i =>
    split at hm
    · rename_i fs hu
      simp only [Option.bind_eq_bind, Option.bind_eq_some_iff, Option.pure_def, Option.some.injEq] at hm
      obtain ⟨f, hf, y, hy, n, hn, rfl⟩ := hm
      exact sound_fld ho hu hf hn (hx x (by simp) y hy) hr he
    · simp at hm
  case indexAddr ty x i =>
    split at hm
    · rename_i n e hu
      simp only [Option.bind_eq_bind, Option.bind_eq_some_iff, Option.pure_def, Option.some.injEq] at hm
      obtain ⟨mx, h1, mi, h2, n, hn, rfl⟩ := hm
      exact sound_ixa ho hu hn (hx x (by simp) mx h1) (hx i (by simp) mi h2) hr he
    · rename_i e hu
      simp only [Option.bind_eq_bind, Option.bind_eq_some_iff, Option.pure_def, Option.some.injEq] at hm
      obtain ⟨mx, h1, mi, h2, n, hn, rfl⟩ := hm
      exact sound_ixs ho hu hn (hx x (by simp) mx h1) (hx i (by simp) mi h2) hr he
    · simp at hm
  case index ty x i =>
    split at hm
    · rename_i n e hu
      simp only [Option.bind_eq_bind, Option.bind_eq_some_iff, Option.pure_def, Option.some.injEq] at hm
      obtain ⟨mx, h1, mi, h2, n, hn, m, hm', rfl⟩ := hm
      exact sound_ix ho hu hn hm' (hx x (by simp) mx h1) (hx i (by simp) mi h2) hr he
    · simp at hm
  case binOp op ty x y u =>
    split at hm
    · rename_i k hu
      simp only [Option.bind_eq_bind, Option.bind_eq_some_iff, Option.pure_def, Option.some.injEq] at hm
      obtain ⟨mx, h1, my, h2, rfl⟩ := hm
      exact sound_bin ho (hx x (by simp) mx h1) (hx y (by simp) my h2) hr he
    · rename_i hni
      have eq : ∀ neg, op = (if neg then .neq else .eql) → cEq P neg ty x y = some m → Done P ((execOp a.eval o).run P C.w) (OpPost B lim C h (quietOp m) l h') := by
        intro neg hop hc
        have ho' : o.op = .binOp (if neg then .neq else .eql) ty x y u := by rw [ho, hop]
        unfold cEq at hc
        split at hc
        · rename_i ks hks
          split at hc
          · rename_i hg
            split at hc
            · rename_i mx my n h1 h2 h3
              simp at hc
              subst hc
              exact Done.loosen (sound_eqv ho' hks (fun k hk => hni k hk) hg.1 hg.2 h3 (hx x (by simp) mx h1) (hx y (by simp) my h2) hr he)
            · simp at hc
          · simp at hc
        · split at hc
          · rename_i nk hnk
            split at hc
            · rename_i hy
              simp only [Option.map_eq_some_iff] at hc
              obtain ⟨mx, h1, rfl⟩ := hc
              exact Done.loosen (sound_eqn ho' hnk (.inl ⟨hy, rfl⟩) (hx x (by simp) mx h1) hr he)
            · split at hc
              · rename_i hx'
                simp only [Option.map_eq_some_iff] at hc
                obtain ⟨my, h1, rfl⟩ := hc
                exact Done.loosen (sound_eqn ho' hnk (.inr ⟨hx', rfl⟩) (hx y (by simp) my h1) hr he)
              · simp at hc
          · simp at hc
      split at hm
      · exact eq false rfl hm
      · exact eq true rfl hm
      · simp at hm
  case unOp op ty x =>
    simp only [Option.map_eq_some_iff] at hm
    obtain ⟨y, hy, rfl⟩ := hm
    exact sound_un ho (hx x (by simp) y hy) hr he
  case slice ty x lo hi mx =>
    split at hm
    · rename_i e hu
      split at hm
      · simp at hm
      · rename_i hb
        simp only [Option.bind_eq_bind, Option.bind_eq_some_iff, Option.pure_def, Option.some.injEq] at hm
        obtain ⟨my, h1, ml, h2, mh, h3, mm, h4, n, hn, rfl⟩ := hm
        exact sound_slc ho (by simpa using hb) hu hn (hx x (by simp) my h1) h2 h3 h4 (fun y hy mz hz => hx y (by subst hy; simp) mz hz) (fun y hy mz hz => hx y (by subst hy; cases lo <;> simp) mz hz) (fun y hy mz hz => hx y (by subst hy; cases lo <;> cases hi <;> simp) mz hz) hr he
    · rename_i hu
      split at hm
      · simp only [Option.bind_eq_bind, Option.bind_eq_some_iff, Option.pure_def, Option.some.injEq] at hm
        obtain ⟨my, h1, ml, h2, mh, h3, rfl⟩ := hm
        exact sound_sst ho hu (hx _ (by simp) my h1) (hx _ (by simp) ml h2) (hx _ (by simp) mh h3) hr he
      · simp at hm
    · simp at hm
  case typeAssert x xt ty ok =>
    split at hm
    · simp at hm
    · rename_i d hni hd
      split at hm
      · rename_i z hz
        simp only [Option.map_eq_some_iff] at hm
        obtain ⟨y, hy, rfl⟩ := hm
        exact sound_tas ho hd (fun ms hms => hni ms hms) hz (hx x (by simp) y hy) hr he
      · simp at hm
    · simp at hm
  case sliceToArrayPointer arr x =>
    split at hm
    · rename_i n e hu
      simp only [Option.map_eq_some_iff] at hm
      obtain ⟨y, hy, rfl⟩ := hm
      exact sound_sap ho hu (hx x (by simp) y hy) hr he
    · simp at hm
  case makeSlice ty x y =>
    split at hm
    · rename_i e hu
      split at hm
      · rename_i z i hz hi
        split at hm
        · rename_i hc
          split at hm
          · rename_i mx my h1 h2
            simp only [Option.some.injEq] at hm
            subst hm
            exact sound_mks ho hu hz hi hc.1 hc.2 (hx x (by simp) mx h1) (hx y (by simp) my h2) hr he
          · simp at hm
        · simp at hm
      · simp at hm
    · simp at hm
  case convert s d x =>
    split at hm
    · rename_i k0 k hs hd
      simp only [Option.map_eq_some_iff] at hm
      obtain ⟨y, hy, rfl⟩ := hm
      exact sound_conv ho hs hd (hx x (by simp) y hy) hr he
    · rename_i e hs hd
      split at hm
      · rename_i he8
        simp only [Option.map_eq_some_iff] at hm
        obtain ⟨y, hy, rfl⟩ := hm
        exact Done.loosen (sound_bst ho hs he8 hd (hx x (by simp) y hy) hr he)
      · simp at hm
    · simp at hm
  case makeInterface ty x =>
    split at hm
    · simp at hm
    · rename_i d hni hd
      simp only [Option.map_eq_some_iff] at hm
      obtain ⟨y, hy, rfl⟩ := hm
      exact sound_ifc ho hd (fun ms hms => hni ms hms) (hx x (by simp) y hy) hr he
    · simp at hm
  case makeFunc fn first cap =>
    cases fn <;> simp only at hm <;> try (simp at hm; done)
    split at hm
    · rename_i hf
      simp only [Option.map_eq_some_iff] at hm
      obtain ⟨ys, hys, rfl⟩ := hm
      exact sound_mkf ho hf hys (fun x hx' y hy => hx x (by simp; exact .inr (by simpa using hx')) y hy) hr he
    · simp at hm
  case extract x i =>
    simp only [Option.map_eq_some_iff] at hm
    obtain ⟨y, hy, rfl⟩ := hm
    exact sound_ext ho (hx x (by simp) y hy) hr he
  case call c =>
    obtain ⟨callee, args, argT⟩ := c
    cases callee with
    | value f =>
      simp only [Option.bind_eq_bind, Option.bind_eq_some_iff, Option.pure_def, Option.some.injEq] at hm
      obtain ⟨mf, _, ma, _, rfl⟩ := hm
      simp [evOp] at he
    | invoke r n =>
      simp only [Option.bind_eq_bind, Option.bind_eq_some_iff, Option.pure_def, Option.some.injEq] at hm
      obtain ⟨mf, _, ma, _, rfl⟩ := hm
      simp [evOp] at he
    | builtin b =>
      have hxa : ∀ x ∈ args.toList, ∀ y, cO x = some y → Conc C (ev t y) (a.eval x) := fun x hx' y hy => hx x (by simpa [Call.operands] using hx') y hy
      cases b <;> simp only at hm <;> try (simp at hm; done)
      case len =>
        split at hm
        · rename_i x hargs hty
          simp only [Option.map_eq_some_iff] at hm
          obtain ⟨y, hy, rfl⟩ := hm
          obtain ⟨ty, h1, h2⟩ := Option.bind_eq_some_iff.1 hty
          exact sound_lenS ho hargs h1 h2 (hxa x (by simp [hargs]) y hy) hr he
        · rename_i x e hargs hty
          simp only [Option.map_eq_some_iff] at hm
          obtain ⟨y, hy, rfl⟩ := hm
          obtain ⟨ty, h1, h2⟩ := Option.bind_eq_some_iff.1 hty
          exact sound_len ho hargs h1 h2 (hxa x (by simp [hargs]) y hy) hr he
        · simp at hm
      case append =>
        obtain ⟨x, y, ty, e, i, z, mx, my, ha', ht', hd, hi, hz, hzs, h1, h2, rfl⟩ := cApp_inv hm
        simp only at ha' ht'
        subst ha'
        subst ht'
        exact sound_app ho hd hi hz hzs (hxa x (by simp) mx h1) (hxa y (by simp) my h2) hr he
      case clear =>
        split at hm
        · rename_i x e hargs hty
          split at hm
          · rename_i z n hz hn
            split at hm
            · rename_i hc
              simp only [Option.map_eq_some_iff] at hm
              obtain ⟨y, hy, rfl⟩ := hm
              obtain ⟨ty, h1, h2⟩ := Option.bind_eq_some_iff.1 hty
              exact sound_clr ho hargs h1 h2 hz hn hc.1 hc.2 (hxa x (by simp [hargs]) y hy) hr he
            · simp at hm
          · simp at hm
        · simp at hm
      case max =>
        simp only [Option.map_eq_some_iff] at hm
        obtain ⟨ys, hys, rfl⟩ := hm
        exact sound_mm (isMax := true) ho hys hxa hr he
      case min =>
        simp only [Option.map_eq_some_iff] at hm
        obtain ⟨ys, hys, rfl⟩ := hm
        exact sound_mm (isMax := false) ho hys hxa hr he

theorem cOp_cases {m : MOp} (hm : cOp P o = some m) : cOp0 P o = some m ∨ m = .stk := by
  unfold cOp at hm
  cases h : cOp0 P o with
  | none => rw [h] at hm; simp at hm; exact .inr hm.symm
  | some m' => rw [h] at hm; simp at hm; subst hm; exact .inl rfl

theorem op_sound {m : MOp} (hm : cOp P o = some m) (hx : ∀ x ∈ o.op.operands, ∀ y, cO x = some y → Conc C (ev t y) (a.eval x)) (hr : Rel C B h)
    (he : evOp m t h lim = some (l, h')) : Done P ((execOp a.eval o).run P C.w) (OpPost B lim C h (quietOp m) l h') := by
  rcases cOp_cases hm with h1 | rfl
  · exact op_sound0 h1 hx hr he
  · simp [evOp] at he
end
end Go.Proofs.Ytjgnjpbplnmdmaa
