/- A call of a Go function; an operation of whatever kind. -/
import Derived.Test.YtebkldmioahkdaaEng6
namespace Go.Proofs.Ytebkldmioahkdaa
open Go Go.RowKit

/-! ### values without rows -/

theorem closedL_mem : ∀ {cs : List LV}, closedL cs = true → ∀ (i : Nat) c, cs[i]? = some c → closed c = true
  | [], _, i, c, h => by simp at h
  | x :: l, hc, i, c, h => by
    simp only [closedL, Bool.and_eq_true] at hc
    cases i with
    | zero => simp at h; subst h; exact hc.1
    | succ i => exact closedL_mem hc.2 i c (by simpa using h)

theorem flatL_mem : ∀ {cs : List LV}, flatL cs = true → ∀ (i : Nat) c, cs[i]? = some c → flat c = true
  | [], _, i, c, h => by simp at h
  | x :: l, hc, i, c, h => by
    simp only [flatL, Bool.and_eq_true] at hc
    cases i with
    | zero => simp at h; subst h; exact hc.1
    | succ i => exact flatL_mem hc.2 i c (by simpa using h)

/-- A flat value stands for the same in whatever context. -/
theorem flat_conc {C C' : Cx} {l : LV} {u : Value} (hc : Conc C l u) (hf : flat l = true) : Conc C' l u := by
  induction hc with
  | v x => exact .v x
  | p h1 h2 => simp [flat] at hf
  | pOld h1 h2 => simp [flat] at hf
  | f h1 _ ih => exact .f h1 fun i c u e1 e2 => ih i c u e1 e2 (flatL_mem (by simpa [flat] using hf) i c e1)
  | sl h1 h2 h3 h4 => simp [flat] at hf
  | slOld h1 h2 => simp [flat] at hf
  | im us h1 h2 h3 _ ih => simp [flat] at hf
  | pi us h3 _ ih => simp [flat] at hf
  | agg h1 _ ih => exact .agg h1 fun i c u e1 e2 => ih i c u e1 e2 (flatL_mem (by simpa [flat] using hf) i c e1)
  | tup h1 _ ih => exact .tup h1 fun i c u e1 e2 => ih i c u e1 e2 (flatL_mem (by simpa [flat] using hf) i c e1)
  | ifc _ ih => exact .ifc (ih (by simpa [flat] using hf))
  | bad u => simp [flat] at hf

/-- A closed value stands for the same in a context whose cells that are leant on are no fewer. -/
theorem closed_conc {C C' : Cx} {l : LV} {u : Value} (hcell : ∀ (b off : Nat) u, ¬ C.own b → ¬ C.X b → C.w.cell? ⟨b, off, none⟩ = some u → ¬ C'.own b ∧ ¬ C'.X b ∧ C'.w.cell? ⟨b, off, none⟩ = some u)
    (hc : Conc C l u) (hf : closed l = true) : Conc C' l u := by
  induction hc with
  | v x => exact .v x
  | p h1 h2 => simp [closed] at hf
  | pOld h1 h2 => simp [closed] at hf
  | f h1 _ ih => exact .f h1 fun i c u e1 e2 => ih i c u e1 e2 (closedL_mem (by simpa [closed] using hf) i c e1)
  | sl h1 h2 h3 h4 => simp [closed] at hf
  | slOld h1 h2 => simp [closed] at hf
  | im us h1 h2 h3 _ ih =>
    refine .im us h1 h2 (fun i e he => ?_) fun i e he => ih i e he (closedL_mem (by simpa [closed] using hf) i e he)
    obtain ⟨a1, a2, a3⟩ := h3 i e he
    exact hcell _ _ _ a1 a2 a3
  | pi us h3 _ ih => simp [closed] at hf
  | agg h1 _ ih => exact .agg h1 fun i c u e1 e2 => ih i c u e1 e2 (closedL_mem (by simpa [closed] using hf) i c e1)
  | tup h1 _ ih => exact .tup h1 fun i c u e1 e2 => ih i c u e1 e2 (closedL_mem (by simpa [closed] using hf) i c e1)
  | ifc _ ih => exact .ifc (ih (by simpa [closed] using hf))
  | bad u => simp [closed] at hf

theorem frzL_get (h : List Row) : ∀ (cs : List LV) (i : Nat), (frzL h cs)[i]? = (cs[i]?).map (frz h)
  | [], i => by simp [frzL]
  | x :: l, i => by
    cases i with
    | zero => simp [frzL]
    | succ i => simp [frzL, frzL_get h l i]

theorem frzL_length (h : List Row) : ∀ (cs : List LV), (frzL h cs).length = cs.length
  | [] => rfl
  | x :: l => by simp [frzL, frzL_length h l]

/-- A slice of a row, as one that nobody writes: in a context that does not own that row. -/
theorem frz_conc {C : Cx} {B : Nat} {h : List Row} (hr : Rel C B h) {l : LV} {u : Value} (hc : Conc C l u) :
    closed (frz h l) = true → Conc ⟨[], [], C.X, C.w⟩ (frz h l) u := by
  have noown : ∀ b, ¬ (Cx.mk [] [] C.X C.w).own b := fun b ⟨k, q, hk⟩ => by
    have hk' : ([] : List (Nat × Nat))[k]? = some (b, q) := hk
    simp at hk'
  -- what is closed already
  have cl : ∀ {l : LV} {u : Value}, Conc C l u → closed l = true → Conc ⟨[], [], C.X, C.w⟩ l u := fun hc hf =>
    closed_conc (C := C) (fun b off u h1 h2 h3 => ⟨noown b, h2, h3⟩) hc hf
  induction hc with
  | v x => intro _; exact .v x
  | p h1 h2 => intro hf; simp [frz, closed] at hf
  | pOld h1 h2 => intro hf; simp [frz, closed] at hf
  | f h1 h2 ih => intro hf; exact cl (.f h1 h2) (by simpa [frz] using hf)
  | im us h1 h2 h3 h4 ih => intro hf; exact cl (.im us h1 h2 h3 h4) (by simpa [frz] using hf)
  | pi us h3 h4 ih => intro hf; simp [frz, closed] at hf
  | agg h1 _ ih =>
    intro hf
    simp only [frz, closed] at hf ⊢
    refine .agg (by rw [frzL_length]; exact h1) fun i c u e1 e2 => ?_
    rw [frzL_get] at e1
    obtain ⟨x, hx, rfl⟩ := Option.map_eq_some_iff.1 e1
    exact ih i x u hx e2 (closedL_mem hf i _ (by rw [frzL_get, hx]; rfl))
  | tup h1 _ ih =>
    intro hf
    simp only [frz, closed] at hf ⊢
    refine .tup (by rw [frzL_length]; exact h1) fun i c u e1 e2 => ?_
    rw [frzL_get] at e1
    obtain ⟨x, hx, rfl⟩ := Option.map_eq_some_iff.1 e1
    exact ih i x u hx e2 (closedL_mem hf i _ (by rw [frzL_get, hx]; rfl))
  | ifc _ ih => intro hf; simp only [frz, closed] at hf ⊢; exact .ifc (ih hf)
  | bad u => intro hf; simp [frz, closed] at hf
  | slOld h1 h2 =>
    rename_i k ver off len esz cur c ad
    intro hf
    exfalso
    simp only [frz] at hf
    cases hrow : rowOf h k ver with
    | none => simp [hrow, closed] at hf
    | some cs =>
      have := Conc.sl_inv hr (Conc.slOld (off := off) (len := len) (esz := esz) (c := c) (a := ad) h1 h2) hrow
      obtain ⟨b, o, us, ty, c, _, _, _, _, e, _⟩ := this
      rw [h1] at e
      simp at e
      omega
  | sl h1 h2 h3 h4 =>
    rename_i k ver off len esz b q c
    intro hf
    simp only [frz] at hf ⊢
    cases hrow : rowOf h k ver with
    | none => simp [hrow, closed] at hf
    | some cs =>
      simp only [hrow] at hf ⊢
      split at hf
      · rename_i hle
        rw [if_pos hle]
        obtain ⟨b', q', us, ty, c', e0, e1, e2, e3, e4, e5, e6, e7, e8, e9⟩ := Conc.sl_inv hr (Conc.sl h1 h2 h3 h4) hrow
        rw [h1] at e3
        simp at e3
        obtain ⟨rfl, rfl⟩ := e3
        refine Conc.im (fun i => us.getD (q + off + i) undef) h3 (fun hh => by simp at hh) (fun i e he => ⟨noown _, ?_, ?_⟩) (fun i e he => ?_)
        · intro hx
          exact (hr.X _ hx).2 ⟨k, _, h1⟩
        · rw [cell_of_row C.w b _ us ty (0, 0) e7]
          have hlt := (List.getElem?_eq_some_iff.1 he).1
          simp at hlt
          have : q + off + i < us.size := by omega
          simp [this]
        · have hlt := (List.getElem?_eq_some_iff.1 he).1
          simp at hlt
          rw [List.getElem?_take, if_pos (by omega), List.getElem?_drop] at he
          obtain ⟨u, f1, f2⟩ := e9 _ _ he
          have : us.getD (q + off + i) undef = u := by
            rw [Nat.add_assoc]; simp [f1]
          rw [this]
          simp only [closed] at hf
          exact cl f2 (closedL_mem hf i e (by rw [List.getElem?_take, if_pos (by omega), List.getElem?_drop]; exact he))
      · rename_i hle; simp [closed] at hf

theorem frzL_conc {C : Cx} {B : Nat} {h : List Row} (hr : Rel C B h) {cs : List LV} {us : List Value} (hc : ConcL C cs us) (hf : closedL (frzL h cs) = true) : ConcL ⟨[], [], C.X, C.w⟩ (frzL h cs) us := by
  refine ⟨by rw [frzL_length]; exact hc.1, fun i c u e1 e2 => ?_⟩
  have e1' := e1
  rw [frzL_get] at e1
  obtain ⟨x, hx, rfl⟩ := Option.map_eq_some_iff.1 e1
  exact frz_conc hr (hc.2 i x u hx e2) (closedL_mem hf i _ e1')

/-- What a call of a function is to do. -/
def CalOK (P : Program) (cal : Callee) : Prop :=
  ∀ g args h lim r h', cal g args h lim = some (r, h') →
    (∃ fn, P.funcs[g]? = some fn ∧ fn.body.isSome = true ∧ fn.name ≠ "runtime.NumGoroutine") ∧
    (∀ (C : Cx) (B : Nat) (us : List Value), ConcL C args us → Rel C B h → Calls P g us.toArray C.w (fun e w' => ∃ C' u, C'.w = w' ∧ e = .returned u ∧ Conc C' r u ∧ Rel C' B h' ∧ Le B C C' ∧ Fr lim C C'))

section
variable {P : Program} {cal : Callee} {o : Oper} {a : Act} {t : List LV} {h h' : List Row} {lim B : Nat} {C : Cx} {l : LV}

theorem run_callFunc {g : FuncId} {fn : Func} (hg : P.funcs[g]? = some fn) (hb : fn.body.isSome = true) (hn : fn.name ≠ "runtime.NumGoroutine") (args : Array Value) (w : World) : (callFunc g args).run P w = .ok (.enter g args) w := by
  have hb' : fn.body ≠ none := by cases hfb : fn.body <;> simp_all
  simp [callFunc, hg, hn, hb']

theorem Rel.own_lt (hr : Rel C B h) {b : Nat} (hb : C.own b) : b < C.w.heap.size := by
  obtain ⟨k, q, hk⟩ := hb
  have hlt : k < h.length := by rw [← hr.len]; exact (List.getElem?_eq_some_iff.1 hk).1
  obtain ⟨_, us, tt, e, _⟩ := hr.row k b q h[k] hk (by simp [hlt])
  exact (Array.getElem?_eq_some_iff.1 e).1

/-- A world without rows of its own. -/
theorem Rel.empty (X : Nat → Prop) (w : World) (hX : ∀ b, X b → b < w.heap.size) : Rel ⟨[], [], X, w⟩ w.heap.size [] :=
  ⟨rfl, rfl, fun k k' b o o' h => by simp at h, fun k b o r h => by simp at h, fun b hb => ⟨hX b hb, fun ⟨k, q, e⟩ => by have e' : ([] : List (Nat × Nat))[k]? = some (b, q) := e; simp at e'⟩, Nat.le_refl _⟩

theorem call_sound (hcal : CalOK P cal) {quiet : Bool} {f : Operand} {args : List Operand} {mf : MO} {ms : List MO} (hf : cO f = some mf) (hm : cOs args = some ms)
    (hx : ∀ x, (x = f ∨ x ∈ args) → ∀ y, cO x = some y → Conc C (ev t y) (a.eval x)) (hr : Rel C B h) (he : evCall cal quiet lim t h mf ms = some (l, h')) (argT : Array TypeId) (ho : o.op = .call { callee := .value f, args := args.toArray, argTypes := argT }) :
    Done P ((execOp a.eval o).run P C.w) (OpPost B lim C h quiet l h') := by
  have hL := cOs_conc hm (fun x hx' y hy => hx x (.inr hx') y hy)
  have hF := hx f (.inl rfl) mf hf
  unfold evCall at he
  split at he
  · rename_i g cap hg
    rw [hg] at hF
    obtain ⟨us, hfe, c1, c2⟩ : ∃ us : List Value, a.eval f = .func (.func g) #[] us.toArray ∧ cap.length = us.length ∧ (∀ (i : Nat) c u, cap[i]? = some c → us[i]? = some u → Conc C c u) := by
      generalize a.eval f = v at hF
      cases hF with | f h1 h2 => exact ⟨_, rfl, h1, h2⟩
    have hall : ConcL C (ms.map (ev t) ++ cap) (args.map a.eval ++ us) := by
      refine ⟨by simp only [List.length_append, hL.1, c1], fun i c u e1 e2 => ?_⟩
      have hlen := hL.1
      rw [List.getElem?_append] at e1 e2
      split at e1
      · rename_i hi; rw [if_pos (by omega)] at e2; exact hL.2 _ _ _ e1 e2
      · rename_i hi; rw [if_neg (by omega)] at e2; rw [hlen] at e1; exact c2 _ _ _ e1 e2
    -- what the machine does at the call
    have hrun : ∀ fn, P.funcs[g]? = some fn → fn.body.isSome = true → fn.name ≠ "runtime.NumGoroutine" → (execOp a.eval o).run P C.w = .ok (.enter g (args.map a.eval ++ us).toArray) C.w := by
      intro fn e1 e2 e3
      simp only [execOp, ho, resolve, hfe, Deferred.ofValue, Sem.run_bind, Sem.run_pure, Result.andThen_ok, invoke]
      simp [run_callFunc e1 e2 e3]
    -- a call in the heap as it is
    have hC : cal g (ms.map (ev t) ++ cap) h lim = some (l, h') → ¬ quiet = true → Done P ((execOp a.eval o).run P C.w) (OpPost B lim C h quiet l h') := by
      intro he hq
      obtain ⟨⟨fn, e1, e2, e3⟩, hcalls⟩ := hcal _ _ _ _ _ _ he
      rw [hrun fn e1 e2 e3]
      refine (hcalls C B _ hall hr).mono ?_
      rintro e w' ⟨C', u, rfl, rfl, x1, x2, x3, x4⟩
      exact ⟨u, rfl, C', rfl, x1, x2, x3, x4, fun hh => absurd hh hq⟩
    split at he
    · rename_i hcl
      unfold orCall at he
      split at he
      · rename_i res hres
        obtain rfl := Option.some.inj he
        split at hres
        · rename_i r h1 hc
          split at hres
          · rename_i hcr
            simp only [Option.some.injEq, Prod.mk.injEq] at hres
            obtain ⟨rfl, rfl⟩ := hres
            obtain ⟨⟨fn, e1, e2, e3⟩, hcalls⟩ := hcal _ _ _ _ _ _ hc
            rw [hrun fn e1 e2 e3]
            have hX0 : ∀ b, (C.own b ∨ C.X b) → b < C.w.heap.size := fun b hb => by
              rcases hb with hb | hb
              · exact hr.own_lt hb
              · exact (hr.X b hb).1
            have hargs : ConcL ⟨[], [], fun b => C.own b ∨ C.X b, C.w⟩ (ms.map (ev t) ++ cap) (args.map a.eval ++ us) :=
              ⟨hall.1, fun i c u f1 f2 => closed_conc (fun b off u g1 g2 g3 => ⟨fun ⟨k, q, hk⟩ => by have hk' : ([] : List (Nat × Nat))[k]? = some (b, q) := hk; simp at hk', fun hh => hh.elim g1 g2, g3⟩) (hall.2 i c u f1 f2) (closedL_mem hcl i c f1)⟩
            refine (hcalls ⟨[], [], fun b => C.own b ∨ C.X b, C.w⟩ C.w.heap.size _ hargs (Rel.empty _ _ hX0)).mono ?_
            rintro e w' ⟨C', u, rfl, rfl, x1, x2, x3, x4⟩
            refine ⟨u, rfl, { C with w := C'.w }, rfl, ?_, Rel.grow hr x3.below, Le.grow hr.size x3.below, Fr.grow rfl x3.below, fun _ => ⟨rfl, rfl, rfl, x3.below⟩⟩
            have y1 := frz_conc x2 x1 hcr
            refine closed_conc (fun b off u g1 g2 g3 => ?_) y1 hcr
            have hXe : C'.X = fun b => C.own b ∨ C.X b := x3.X
            have g2' : ¬ C'.X b := g2
            rw [hXe] at g2'
            exact ⟨fun hh => g2' (.inl hh), fun hh => g2' (.inr hh), g3⟩
          · simp at hres
        · simp at hres
      · split at he
        · simp at he
        · rename_i hq; exact hC he hq
    · split at he
      · rename_i hcl
        unfold orCall at he
        split at he
        · rename_i res hres
          obtain rfl := Option.some.inj he
          split at hres
          · rename_i r h1 hc
            split at hres
            · rename_i hfl
              simp only [Option.some.injEq, Prod.mk.injEq] at hres
              obtain ⟨rfl, rfl⟩ := hres
              obtain ⟨⟨fn, e1, e2, e3⟩, hcalls⟩ := hcal _ _ _ _ _ _ hc
              rw [hrun fn e1 e2 e3]
              have hX0 : ∀ b, C.X b → b < C.w.heap.size := fun b hb => (hr.X b hb).1
              refine (hcalls ⟨[], [], C.X, C.w⟩ C.w.heap.size _ (frzL_conc hr hall hcl) (Rel.empty _ _ hX0)).mono ?_
              rintro e w' ⟨C', u, rfl, rfl, x1, x2, x3, x4⟩
              exact ⟨u, rfl, { C with w := C'.w }, rfl, flat_conc x1 hfl, Rel.grow hr x3.below, Le.grow hr.size x3.below, Fr.grow rfl x3.below, fun _ => ⟨rfl, rfl, rfl, x3.below⟩⟩
            · simp at hres
          · simp at hres
        · split at he
          · simp at he
          · rename_i hq; exact hC he hq
      · split at he
        · rename_i hq
          split at he
          · rename_i r h1 hc
            split at he
            · rename_i hfl
              simp only [Option.some.injEq, Prod.mk.injEq] at he
              obtain ⟨rfl, rfl⟩ := he
              obtain ⟨⟨fn, e1, e2, e3⟩, hcalls⟩ := hcal _ _ _ _ _ _ hc
              rw [hrun fn e1 e2 e3]
              refine (hcalls C B _ hall hr).mono ?_
              rintro e w' ⟨C', u, rfl, rfl, x1, x2, x3, x4⟩
              have hb : Below C.w.heap.size C.w C'.w := x4.below x3.below (by rw [hr.len]; exact Nat.le_refl _)
              exact ⟨u, rfl, { C with w := C'.w }, rfl, flat_conc x1 hfl, Rel.grow hr hb, Le.grow hr.size hb, Fr.grow rfl hb, fun _ => ⟨rfl, rfl, rfl, hb⟩⟩
            · simp at he
          · simp at he
        · rename_i hq; exact hC he hq
  · simp at he

theorem any_sound (hcal : CalOK P cal) {quiet : Bool} {m : MOp} (hm : cOp P o = some m) (hx : ∀ x ∈ o.op.operands, ∀ y, cO x = some y → Conc C (ev t y) (a.eval x)) (hr : Rel C B h)
    (he : evAny cal quiet lim m t h = some (l, h')) (hq : quiet = true → quietOp m = true) : Done P ((execOp a.eval o).run P C.w) (OpPost B lim C h quiet l h') := by
  by_cases hc : ∃ f args, m = .call f args
  · obtain ⟨mf, ms, rfl⟩ := hc
    simp only [evAny] at he
    have hcall : ∃ f args argT, o.op = .call { callee := .value f, args := args, argTypes := argT } ∧ cO f = some mf ∧ cOs args.toList = some ms := by
      cases ho : o.op <;> simp only [cOp, ho] at hm <;> try (first | (simp at hm; done) | (simp only [Option.map_eq_some_iff] at hm; obtain ⟨_, _, hh⟩ := hm; cases hh; done))
      case pick => simp [Option.bind_eq_some_iff] at hm
      case slice ty x lo hi mx =>
        cases mx with
        | some _ => simp at hm
        | none =>
          dsimp only at hm
          split at hm <;> simp [Option.bind_eq_some_iff] at hm
      case sliceToArrayPointer => split at hm <;> simp at hm
      case makeSlice =>
        split at hm <;> try (simp at hm; done)
        split at hm <;> try (simp at hm; done)
        split at hm <;> try (simp at hm; done)
        split at hm <;> simp at hm
      case build ty ps => split at hm <;> try (simp at hm; done)
                          all_goals (split at hm <;> simp at hm)
      case buildSlice => split at hm <;> try (simp at hm; done)
                         split at hm <;> try (simp at hm; done)
      case load => simp [Option.bind_eq_some_iff] at hm
      case store => simp [Option.bind_eq_some_iff] at hm
      case fieldAddr => split at hm <;> simp [Option.bind_eq_some_iff] at hm
      case field => split at hm <;> simp [Option.bind_eq_some_iff] at hm
      case indexAddr => split at hm <;> simp [Option.bind_eq_some_iff] at hm
      case index => split at hm <;> simp [Option.bind_eq_some_iff] at hm
      case binOp op ty x y u =>
        split at hm
        · simp [Option.bind_eq_some_iff] at hm
        · split at hm <;> try (simp at hm; done)
          all_goals (
            unfold cEq at hm
            split at hm
            · split at hm <;> try (simp at hm; done)
              split at hm <;> simp at hm
            · split at hm <;> try (simp at hm; done)
              split at hm <;> simp at hm)
      case convert => split at hm <;> simp at hm
      case makeInterface => split at hm <;> simp at hm
      case makeFunc fn _ _ => cases fn <;> simp at hm
      case call c =>
        obtain ⟨callee, args, argT⟩ := c
        cases callee with
        | value f =>
          simp only [Option.bind_eq_bind, Option.bind_eq_some_iff, Option.pure_def, Option.some.injEq, MOp.call.injEq] at hm
          obtain ⟨y, h1, z, h2, rfl, rfl⟩ := hm
          exact ⟨f, args, argT, rfl, h1, h2⟩
        | invoke r n => simp at hm
        | builtin b =>
          cases b <;> simp at hm
          case append =>
            obtain ⟨_, _, _, _, _, _, _, _, _, _, _, _, _, _, _, _, hh⟩ := cApp_inv hm
            cases hh
          split at hm <;> simp at hm
    obtain ⟨f, args, argT, ho, h1, h2⟩ := hcall
    rw [ho] at hx
    exact call_sound hcal h1 h2 (fun x hx' y hy => hx x (by
      rcases hx' with rfl | hx'
      · simp [Op.operands, Call.operands]
      · simp only [Op.operands, Call.operands, Array.mem_append]; exact .inr (by simpa using hx')) y hy) hr he argT (by simpa using ho)
  · have he' : evOp m t h lim = some (l, h') := by
      cases m <;> first | exact he | exact (hc ⟨_, _, rfl⟩).elim
    exact (op_sound hm hx hr he').mono fun u w ⟨C', h1, h2, h3, h4, h6, h5⟩ => ⟨C', h1, h2, h3, h4, h6, fun hh => h5 (hq hh)⟩
end
end Go.Proofs.Ytebkldmioahkdaa
