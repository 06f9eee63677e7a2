/- Functions: what the evaluator comes to is what the machine's call hands back. -/
import Derived.Test.YtjgnjpbplnmdmaaEng11
namespace Go.Proofs.Ytjgnjpbplnmdmaa
open Go Go.RowKit

section
variable {P : Program} {cal : Callee} {lim B : Nat} {h h' : List Row} {a : Act} {t t' : List LV} {C : Cx}

def resOne (tmps : Array Value) : ResultVar → Sem Value
  | .tmp t => pure (tmps.getD t undef)
  | .cell x ty => do loadVar ty (← asAddr (tmps.getD x undef))

def tupV (vs : Array Value) : Value := if h : vs.size = 1 then vs[0] else .tuple vs

theorem results_eq (fn : Func) (tmps : Array Value) : results fn tmps = (fn.results.mapM (resOne tmps) >>= fun vs => (pure (tupV vs) : Sem Value)) := by
  unfold results
  congr 1

theorem res_sound (ht : TmpR C t a) (hr : Rel C B h) : ∀ (rs : List ResultVar) (ms : List MR) (ls : List LV), mapO (cR P) rs = some ms → evRes t h ms = some ls →
    ∃ us, (rs.mapM (resOne a.tmps)).run P C.w = .ok us C.w ∧ ConcL C ls us
  | [], ms, ls, hm, he => by
    simp [mapO] at hm
    subst hm
    simp [evRes] at he
    subst he
    exact ⟨[], rfl, rfl, fun i c u h => by simp at h⟩
  | r :: rs, ms, ls, hm, he => by
    unfold mapO at hm
    split at hm
    · rename_i m ms' h1 h2
      simp at hm
      subst hm
      have fin : ∀ (x : LV) (ls' : List LV) (u : Value), (resOne a.tmps r).run P C.w = .ok u C.w → Conc C x u → evRes t h ms' = some ls' → ls = x :: ls' → ∃ us, ((r :: rs).mapM (resOne a.tmps)).run P C.w = .ok us C.w ∧ ConcL C ls us := by
        intro x ls' u e1 e2 e3 e4
        subst e4
        obtain ⟨us, g1, g2⟩ := res_sound ht hr rs ms' ls' h2 e3
        refine ⟨u :: us, by simp only [List.mapM_cons, Sem.run_bind, e1, Result.andThen_ok, g1, Sem.run_pure], by simp [g2.1], fun i c v f1 f2 => ?_⟩
        cases i with
        | zero => simp at f1 f2; subst f1; subst f2; exact e2
        | succ i => exact g2.2 i c v (by simpa using f1) (by simpa using f2)
      cases r with
      | tmp i =>
        simp [cR] at h1
        subst h1
        simp only [evRes] at he
        split at he
        · rename_i ls' hls
          simp at he
          exact fin _ ls' _ rfl (ht.2 i) hls he.symm
        · simp at he
      | cell i ty =>
        simp only [cR, Option.map_eq_some_iff] at h1
        obtain ⟨n, hn, rfl⟩ := h1
        simp only [evRes] at he
        split at he
        · rename_i k ver off ls' hk hls
          split at he
          · rename_i x hx
            simp at he
            obtain ⟨cs, hrow, hrd⟩ := Option.bind_eq_some_iff.1 hx
            have hc := ht.2 i
            rw [hk] at hc
            obtain ⟨b, q, us, tt, hu, g1, g2, g3, g4, g5, g6, g7⟩ := Conc.p_inv hr hc hrow
            have hus : ∀ (i : Nat) e, cs[i]? = some e → Conc C e (us.getD (q + i) undef) := fun i e hi => by
              obtain ⟨v, e1, e2⟩ := g7 i e hi
              have : us.getD (q + i) undef = v := by simp [e1]
              rw [this]; exact e2
            obtain ⟨hf, hrc⟩ := rdAt_conc hus hrd
            have hcell : ∀ j, off + j < cs.length → C.w.cell? ⟨b, q + off + j, none⟩ = some (us.getD (q + (off + j)) undef) := fun j hj => by
              rw [cell_of_row C.w b _ us tt (0, 0) g5]
              have e : q + off + j = q + (off + j) := by omega
              have hlt : q + (off + j) < us.size := by omega
              rw [e]; simp [hlt]
            have hrun := run_loadVar_shape hn C.w b (q + off) (fun j => us.getD (q + (off + j)) undef) (fun j hj => hcell j (by omega))
            exact fin x ls' _ (by
              simp only [resOne, hu, asAddr, Sem.run_bind, Sem.run_pure, Result.andThen_ok]
              exact hrun) hrc hls he.symm
          · simp at he
        · simp at he
    · simp at hm

theorem tup_conc {ls : List LV} {us : List Value} (h : ConcL C ls us) : Conc C (tupOf ls) (tupV us.toArray) := by
  match ls, us, h with
  | [], [], h => exact .tup h.1 h.2
  | [x], [u], h => exact h.2 0 x u rfl rfl
  | x :: y :: ls, u :: v :: us, h => simpa [tupOf, tupV] using Conc.tup h.1 h.2
  | [], _ :: _, h => have := h.1; simp at this
  | _ :: _, [], h => have := h.1; simp at this
  | [_], _ :: _ :: _, h => have := h.1; simp at this
  | _ :: _ :: _, [_], h => have := h.1; simp at this

theorem getT_append (xs ys : List LV) (i : Nat) : getT (xs ++ ys) i = if i < xs.length then getT xs i else getT ys (i - xs.length) := by
  simp only [getT_eq, List.getElem?_append]
  split <;> rfl

theorem fun_sound (hcal : CalOK P cal) (hmo : P.follows .mixedOrders = true) {md : Bool × List FuncId} {f : FuncId} {m : MF} (hm : cF P md f = some m) {n : Nat} {args : List LV} {r : LV} (he : runF cal n lim m args h = some (r, h')) {us : List Value} (ha : ConcL C args us) (hr : Rel C B h) :
    Calls P f us.toArray C.w (fun e w' => ∃ C' u, C'.w = w' ∧ e = .returned u ∧ Conc C' r u ∧ Rel C' B h' ∧ Le B C C' ∧ Fr lim C C') := by
  unfold cF at hm
  simp only [Option.bind_eq_bind, Option.bind_eq_some_iff] at hm
  obtain ⟨fn, hfn, b, hb, rs, hrs, hm⟩ := hm
  split at hm
  · simp at hm
  · simp only [Option.pure_def, Option.some.injEq] at hm
    subst hm
    unfold runF at he
    split at he
    · rename_i hlen
      refine calls_of_wp hfn hb ?_
      have hul : us.length = fn.params.size + fn.nfree := by rw [← ha.1]; exact hlen
      have ht : TmpR C (args ++ List.replicate (fn.ntmps - (fn.params.size + fn.nfree)) .u) { tmps := us.toArray ++ Array.replicate (fn.ntmps - us.toArray.size) undef, defers := [] } := by
        refine ⟨by simp [ha.1, hul], fun i => ?_⟩
        rw [getT_append]
        have e : (us.toArray ++ Array.replicate (fn.ntmps - us.toArray.size) undef).getD i undef = us.getD i undef := by
          rw [Array.getD_eq_getD_getElem?, Array.getElem?_append]
          by_cases hi : i < us.length
          · simp [hi]
          · have h1 : ¬ i < us.toArray.size := by simpa using hi
            have h2 : us[i]? = none := by simp; omega
            rw [if_neg h1, Array.getElem?_replicate, List.getD_eq_getElem?_getD, h2]
            split <;> rfl
        rw [e]
        split
        · rename_i hi
          rw [getT_eq]
          have : args[i]? = some args[i] := by simp [hi]
          rw [this]
          exact concL_get ha i args[i] this
        · rename_i hi
          have h2 : us.getD i undef = undef := by
            have : us[i]? = none := by simp; rw [← ha.1]; omega
            simp [List.getD, this]
          rw [h2, getT_eq]
          cases hj : (List.replicate (fn.ntmps - (fn.params.size + fn.nfree)) LV.u)[i - args.length]? with
          | none => exact .bad _
          | some z =>
            have := List.mem_of_getElem? hj
            simp at this
            rw [this.2]
            exact .v _
      have fin : ∀ (e : Ex) (s : St), (e = .nrm ∨ e = .ret) → evCode cal n lim (cC P md fn.tmpNames b) (args ++ List.replicate (fn.ntmps - (fn.params.size + fn.nfree)) .u, h) = some (e, s) → (evRes s.1 s.2 rs).map (fun r => (tupOf r, s.2)) = some (r, h') →
          b.wp P (bodyPost P fn (fun e w' => ∃ C' u, C'.w = w' ∧ e = .returned u ∧ Conc C' r u ∧ Rel C' B h' ∧ Le B C C' ∧ Fr lim C C')) { tmps := us.toArray ++ Array.replicate (fn.ntmps - us.toArray.size) undef, defers := [] } C.w := by
        intro e s hee hev hres
        simp only [Option.map_eq_some_iff, Prod.mk.injEq] at hres
        obtain ⟨ls, hls, rfl, rfl⟩ := hres
        refine Code.wp_mono ?_ (code_sound hcal hmo b _ s e C _ hev ht hr rfl)
        rintro e' a' w' ⟨rfl, C1, rfl, x1, x2, x3, x4, x5⟩
        obtain ⟨vs, g1, g2⟩ := res_sound x1 x2 fn.results.toList rs ls hrs hls
        have hrun : (results fn a'.tmps).run P C1.w = .ok (tupV vs.toArray) C1.w := by
          rw [results_eq, Array.mapM_eq_mapM_toList]
          simp only [Sem.run_bind, Sem.run_map, g1, Result.andThen_ok, Sem.run_pure]
        have := tup_conc g2
        rcases hee with rfl | rfl
        · exact ⟨x5, _, hrun, C1, _, rfl, rfl, this, x2, x3, x4⟩
        · exact ⟨x5, _, hrun, C1, _, rfl, rfl, this, x2, x3, x4⟩
      split at he
      · rename_i s hs
        exact fin .nrm s (.inl rfl) hs he
      · rename_i s hs
        exact fin .ret s (.inr rfl) hs he
      · simp at he
    · simp at he

theorem cF_spec {md : Bool × List FuncId} {f : FuncId} {m : MF} (hm : cF P md f = some m) : ∃ fn, P.funcs[f]? = some fn ∧ fn.body.isSome = true ∧ fn.name ≠ "runtime.NumGoroutine" := by
  unfold cF at hm
  simp only [Option.bind_eq_bind, Option.bind_eq_some_iff] at hm
  obtain ⟨fn, hfn, b, hb, rs, hrs, hm⟩ := hm
  split at hm
  · simp at hm
  · rename_i hn
    exact ⟨fn, hfn, by simp [hb], hn⟩

/-- An answer is right. -/
def OrcOk (P : Program) (g : FuncId) (f : List LV → List Row → Nat → Option (LV × List Row)) : Prop :=
  ∀ args h lim r h', f args h lim = some (r, h') →
    (∃ fn, P.funcs[g]? = some fn ∧ fn.body.isSome = true ∧ fn.name ≠ "runtime.NumGoroutine") ∧
    (∀ (C : Cx) (B : Nat) (us : List Value), ConcL C args us → Rel C B h → Calls P g us.toArray C.w (fun e w' => ∃ C' u, C'.w = w' ∧ e = .returned u ∧ Conc C' r u ∧ Rel C' B h' ∧ Le B C C' ∧ Fr lim C C'))
def Good (P : Program) (g : FuncId) : ME → Prop
  | .n m => ∃ md, cF P md g = some m
  | .s m => ∃ md, cF P md g = some m
  | .o f => OrcOk P g f

/-- The evaluator is right. -/
theorem evF_ok {cm : FuncId → Option ME} (hcm : ∀ g m, cm g = some m → Good P g m) (hmo : P.follows .mixedOrders = true) : ∀ n, CalOK P (evF cm n)
  | 0 => fun g args h lim r h' he => by simp [evF] at he
  | n + 1 => fun g args h lim r h' he => by
    simp only [evF] at he
    split at he
    · rename_i m hm
      obtain ⟨md, hmd⟩ := hcm g _ hm
      exact ⟨cF_spec hmd, fun C B us ha hr => fun_sound (evF_ok hcm hmo n) hmo hmd he ha hr⟩
    · rename_i m hm
      obtain ⟨md, hmd⟩ := hcm g _ hm
      split at he
      · simp at he
      · exact ⟨cF_spec hmd, fun C B us ha hr => fun_sound (evF_ok hcm hmo n) hmo hmd he ha hr⟩
    · rename_i f hm
      exact hcm g _ hm args h lim r h' he
    · simp at he

/-- A call of a function with values that are no row's: what it hands back, and that it leaves what was there. -/
theorem calls_of_ev {cm : FuncId → Option ME} (hcm : ∀ g m, cm g = some m → Good P g m) (hmo : P.follows .mixedOrders = true) {n : Nat} {f : FuncId} {args : List LV} {r : LV} {h' : List Row} (he : evF cm n f args [] 0 = some (r, h')) (hf : flat r = true)
    (w : World) {us : List Value} (ha : ConcL ⟨[], [], fun _ => False, w⟩ args us) : Calls P f us.toArray w (fun e w' => ∃ u, e = .returned u ∧ (∀ C : Cx, Conc C r u) ∧ Below w.heap.size w w') := by
  refine (((evF_ok hcm hmo n) f args [] 0 r h' he).2 ⟨[], [], fun _ => False, w⟩ w.heap.size us ha (Rel.empty _ _ fun _ h => h.elim)).mono ?_
  rintro e w' ⟨C', u, rfl, rfl, x1, x2, x3, _⟩
  exact ⟨u, rfl, fun C => flat_conc x1 hf, x3.below⟩
end
end Go.Proofs.Ytjgnjpbplnmdmaa
