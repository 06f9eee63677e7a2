/- A call of a Go function; an operation of whatever kind. -/
import Derived.Test.YtjgnjpbplnmdmaaEng6
namespace Go.Proofs.Ytjgnjpbplnmdmaa
open Go Go.RowKit

/-! ### values without rows -/

theorem closedL_mem : ∀ {cs : List LV}, closedL cs = true → ∀ (i : Nat) c, cs[i]? = some c → closed c = true
  | [], _, i, c, h => by simp at h
  | x :: l, hc, i, c, h => by
    simp only [closedL, Bool.and_eq_true] at hc
    cases i with
    | zero => simp at h; subst h; exact hc.1
    | succ i => exact closedL_mem hc.2 i c (by simpa using h)

theorem flatL_mem : ∀ {cs : List LV}, flatL cs = true → ∀ (i : Nat) c, cs[i]? = some c → flat c = true
  | [], _, i, c, h => by simp at h
  | x :: l, hc, i, c, h => by
    simp only [flatL, Bool.and_eq_true] at hc
    cases i with
    | zero => simp at h; subst h; exact hc.1
    | succ i => exact flatL_mem hc.2 i c (by simpa using h)

/-- A flat value stands for the same in whatever context. -/
theorem flat_conc {C C' : Cx} {l : LV} {u : Value} (hc : Conc C l u) (hf : flat l = true) : Conc C' l u := by
  induction hc with
  | v x => exact .v x
  | p h1 h2 => simp [flat] at hf
  | pOld h1 h2 => simp [flat] at hf
  | f h1 _ ih => exact .f h1 fun i c u e1 e2 => ih i c u e1 e2 (flatL_mem (by simpa [flat] using hf) i c e1)
  | sl h1 h2 h3 h4 => simp [flat] at hf
  | slOld h1 h2 => simp [flat] at hf
  | im us h1 h2 h3 _ ih => simp [flat] at hf
  | pi us h3 _ ih => simp [flat] at hf
  | agg h1 _ ih => exact .agg h1 fun i c u e1 e2 => ih i c u e1 e2 (flatL_mem (by simpa [flat] using hf) i c e1)
  | tup h1 _ ih => exact .tup h1 fun i c u e1 e2 => ih i c u e1 e2 (flatL_mem (by simpa [flat] using hf) i c e1)
  | ifc _ ih => exact .ifc (ih (by simpa [flat] using hf))
  | bad u => simp [flat] at hf

/-- A closed value stands for the same in a context whose cells that are leant on are no fewer. -/
theorem closed_conc {C C' : Cx} {l : LV} {u : Value} (hcell : ∀ (b off : Nat) u, ¬ C.own b → ¬ C.X b → C.w.cell? ⟨b, off, none⟩ = some u → ¬ C'.own b ∧ ¬ C'.X b ∧ C'.w.cell? ⟨b, off, none⟩ = some u)
    (hc : Conc C l u) (hf : closed l = true) : Conc C' l u := by
  induction hc with
  | v x => exact .v x
  | p h1 h2 => simp [closed] at hf
  | pOld h1 h2 => simp [closed] at hf
  | f h1 _ ih => exact .f h1 fun i c u e1 e2 => ih i c u e1 e2 (closedL_mem (by simpa [closed] using hf) i c e1)
  | sl h1 h2 h3 h4 => simp [closed] at hf
  | slOld h1 h2 => simp [closed] at hf
  | im us h1 h2 h3 _ ih =>
    refine .im us h1 h2 (fun i e he => ?_) fun i e he => ih i e he (closedL_mem (by simpa [closed] using hf) i e he)
    obtain ⟨a1, a2, a3⟩ := h3 i e he
    exact hcell _ _ _ a1 a2 a3
  | pi us h3 _ ih =>
    refine .pi us (fun i e he => ?_) fun i e he => ih i e he (closedL_mem (by simpa [closed] using hf) i e he)
    obtain ⟨a1, a2, a3⟩ := h3 i e he
    exact hcell _ _ _ a1 a2 a3
  | agg h1 _ ih => exact .agg h1 fun i c u e1 e2 => ih i c u e1 e2 (closedL_mem (by simpa [closed] using hf) i c e1)
  | tup h1 _ ih => exact .tup h1 fun i c u e1 e2 => ih i c u e1 e2 (closedL_mem (by simpa [closed] using hf) i c e1)
  | ifc _ ih => exact .ifc (ih (by simpa [closed] using hf))
  | bad u => simp [closed] at hf

theorem frzL_get (h : List Row) : ∀ (cs : List LV) (i : Nat), (frzL h cs)[i]? = (cs[i]?).map (frz h)
  | [], i => by simp [frzL]
  | x :: l, i => by
    cases i with
    | zero => simp [frzL]
    | succ i => simp [frzL, frzL_get h l i]

theorem frzL_length (h : List Row) : ∀ (cs : List LV), (frzL h cs).length = cs.length
  | [] => rfl
  | x :: l => by simp [frzL, frzL_length h l]

/-- A slice of a row, as one that nobody writes: in a context that does not own that row. -/
theorem frz_conc {C : Cx} {B : Nat} {h : List Row} (hr : Rel C B h) {l : LV} {u : Value} (hc : Conc C l u) :
    closed (frz h l) = true → Conc ⟨[], [], C.X, C.w⟩ (frz h l) u := by
  have noown : ∀ b, ¬ (Cx.mk [] [] C.X C.w).own b := fun b ⟨k, q, hk⟩ => by
    have hk' : ([] : List (Option (Nat × Nat)))[k]? = some (some (b, q)) := hk
    simp at hk'
  -- what is closed already
  have cl : ∀ {l : LV} {u : Value}, Conc C l u → closed l = true → Conc ⟨[], [], C.X, C.w⟩ l u := fun hc hf =>
    closed_conc (C := C) (fun b off u h1 h2 h3 => ⟨noown b, h2, h3⟩) hc hf
  induction hc with
  | v x => intro _; exact .v x
  | p h1 h2 => intro hf; simp [frz, closed] at hf
  | pOld h1 h2 => intro hf; simp [frz, closed] at hf
  | f h1 h2 ih => intro hf; exact cl (.f h1 h2) (by simpa [frz] using hf)
  | im us h1 h2 h3 h4 ih => intro hf; exact cl (.im us h1 h2 h3 h4) (by simpa [frz] using hf)
  | pi us h3 h4 ih => intro hf; exact cl (.pi us h3 h4) (by simpa [frz] using hf)
  | agg h1 _ ih =>
    intro hf
    simp only [frz, closed] at hf ⊢
    refine .agg (by rw [frzL_length]; exact h1) fun i c u e1 e2 => ?_
    rw [frzL_get] at e1
    obtain ⟨x, hx, rfl⟩ := Option.map_eq_some_iff.1 e1
    exact ih i x u hx e2 (closedL_mem hf i _ (by rw [frzL_get, hx]; rfl))
  | tup h1 _ ih =>
    intro hf
    simp only [frz, closed] at hf ⊢
    refine .tup (by rw [frzL_length]; exact h1) fun i c u e1 e2 => ?_
    rw [frzL_get] at e1
    obtain ⟨x, hx, rfl⟩ := Option.map_eq_some_iff.1 e1
    exact ih i x u hx e2 (closedL_mem hf i _ (by rw [frzL_get, hx]; rfl))
  | ifc _ ih => intro hf; simp only [frz, closed] at hf ⊢; exact .ifc (ih hf)
  | bad u => intro hf; simp [frz, closed] at hf
  | slOld h1 h2 =>
    rename_i k ver off len esz cap cur c ad
    intro hf
    exfalso
    simp only [frz] at hf
    cases hrow : rowOf h k ver with
    | none => simp [hrow, closed] at hf
    | some cs =>
      have := Conc.sl_inv hr (Conc.slOld (off := off) (len := len) (esz := esz) (cap := cap) (c := c) (a := ad) h1 h2) hrow
      obtain ⟨b, o, us, ty, c, _, _, _, _, e, _⟩ := this
      rw [h1] at e
      simp at e
      omega
  | sl h1 h2 h3 h4 =>
    rename_i k ver off len esz cap b q c
    intro hf
    simp only [frz] at hf ⊢
    cases hrow : rowOf h k ver with
    | none => simp [hrow, closed] at hf
    | some cs =>
      simp only [hrow] at hf ⊢
      split at hf
      · rename_i hle
        rw [if_pos hle]
        obtain ⟨b', q', us, ty, c', e0, e1, e2, e3, e4, e5, e6, e7, e8, e9⟩ := Conc.sl_inv hr (Conc.sl h1 h2 h3 h4) hrow
        rw [h1] at e3
        simp at e3
        obtain ⟨rfl, rfl⟩ := e3
        refine Conc.im (fun i => us.getD (q + off + i) undef) (Nat.le_trans h3.1 h3.2) (fun hh => by simp at hh) (fun i e he => ⟨noown _, ?_, ?_⟩) (fun i e he => ?_)
        · intro hx
          exact (hr.X _ hx).2 ⟨k, _, h1⟩
        · rw [cell_of_row C.w b _ us ty (0, 0) e7]
          have hlt := (List.getElem?_eq_some_iff.1 he).1
          simp at hlt
          have : q + off + i < us.size := by omega
          simp [this]
        · have hlt := (List.getElem?_eq_some_iff.1 he).1
          simp at hlt
          rw [List.getElem?_take, if_pos (by omega), List.getElem?_drop] at he
          obtain ⟨u, f1, f2⟩ := e9 _ _ he
          have : us.getD (q + off + i) undef = u := by
            rw [Nat.add_assoc]; simp [f1]
          rw [this]
          simp only [closed] at hf
          exact cl f2 (closedL_mem hf i e (by rw [List.getElem?_take, if_pos (by omega), List.getElem?_drop]; exact he))
      · rename_i hle; simp [closed] at hf

theorem frzL_conc {C : Cx} {B : Nat} {h : List Row} (hr : Rel C B h) {cs : List LV} {us : List Value} (hc : ConcL C cs us) (hf : closedL (frzL h cs) = true) : ConcL ⟨[], [], C.X, C.w⟩ (frzL h cs) us := by
  refine ⟨by rw [frzL_length]; exact hc.1, fun i c u e1 e2 => ?_⟩
  have e1' := e1
  rw [frzL_get] at e1
  obtain ⟨x, hx, rfl⟩ := Option.map_eq_some_iff.1 e1
  exact frz_conc hr (hc.2 i x u hx e2) (closedL_mem hf i _ e1')

/-- What a call of a function is to do. -/
def CalOK (P : Program) (cal : Callee) : Prop :=
  ∀ g args h lim r h', cal g args h lim = some (r, h') →
    (∃ fn, P.funcs[g]? = some fn ∧ fn.body.isSome = true ∧ fn.name ≠ "runtime.NumGoroutine") ∧
    (∀ (C : Cx) (B : Nat) (us : List Value), ConcL C args us → Rel C B h → Calls P g us.toArray C.w (fun e w' => ∃ C' u, C'.w = w' ∧ e = .returned u ∧ Conc C' r u ∧ Rel C' B h' ∧ Le B C C' ∧ Fr lim C C'))

section
variable {P : Program} {cal : Callee} {o : Oper} {a : Act} {t : List LV} {h h' : List Row} {lim B : Nat} {C : Cx} {l : LV}

theorem run_callFunc {g : FuncId} {fn : Func} (hg : P.funcs[g]? = some fn) (hb : fn.body.isSome = true) (hn : fn.name ≠ "runtime.NumGoroutine") (args : Array Value) (w : World) : (callFunc g args).run P w = .ok (.enter g args) w := by
  have hb' : fn.body ≠ none := by cases hfb : fn.body <;> simp_all
  simp [callFunc, hg, hn, hb']

theorem Rel.own_lt (hr : Rel C B h) {b : Nat} (hb : C.own b) : b < C.w.heap.size := by
  obtain ⟨k, q, hk⟩ := hb
  have hlt : k < h.length := by rw [← hr.len]; exact (List.getElem?_eq_some_iff.1 hk).1
  obtain ⟨_, us, tt, e, _⟩ := hr.row k b q h[k] hk (by simp [hlt])
  exact (Array.getElem?_eq_some_iff.1 e).1

/-- A world without rows of its own. -/
theorem Rel.empty (X : Nat → Prop) (w : World) (hX : ∀ b, X b → b < w.heap.size) : Rel ⟨[], [], X, w⟩ w.heap.size [] :=
  ⟨rfl, rfl, fun k k' b o o' h => by simp at h, fun k b o r h => by simp at h, fun b hb => ⟨hX b hb, fun ⟨k, q, e⟩ => by have e' : ([] : List (Option (Nat × Nat)))[k]? = some (some (b, q)) := e; simp at e'⟩, Nat.le_refl _⟩

theorem shLs_get (n : Nat) : ∀ (cs : List LV) (i : Nat), (shLs n cs)[i]? = (cs[i]?).map (shL n)
  | [], i => rfl
  | x :: l, 0 => rfl
  | x :: l, i + 1 => by simp only [shLs, List.getElem?_cons_succ]; exact shLs_get n l i
theorem shLs_length (n : Nat) : ∀ (cs : List LV), (shLs n cs).length = cs.length
  | [] => rfl
  | x :: l => by simp [shLs, shLs_length n l]
theorem shR_get (n : Nat) : ∀ (h : List Row) (i : Nat), (shR n h)[i]? = (h[i]?).map fun r => ⟨r.ver, shLs n r.cells⟩
  | [], i => rfl
  | x :: l, 0 => rfl
  | x :: l, i + 1 => by simp only [shR, List.getElem?_cons_succ]; exact shR_get n l i
theorem shR_length (n : Nat) : ∀ (h : List Row), (shR n h).length = h.length
  | [] => rfl
  | x :: l => by simp [shR, shR_length n l]
theorem noimL_mem : ∀ {cs : List LV}, noimL cs = true → ∀ (i : Nat) c, cs[i]? = some c → noim c = true
  | [], _, i, c, h => by simp at h
  | x :: l, h, 0, c, hc => by simp [noimL] at h; simp at hc; subst hc; exact h.1
  | x :: l, h, i + 1, c, hc => by simp [noimL] at h; exact noimL_mem h.2 i c (by simpa using hc)
theorem noimR_mem : ∀ {h : List Row}, noimR h = true → ∀ (i : Nat) r, h[i]? = some r → noimL r.cells = true
  | [], _, i, r, h => by simp at h
  | x :: l, h, 0, r, hr => by simp [noimR] at h; simp at hr; subst hr; exact h.1
  | x :: l, h, i + 1, r, hr => by simp [noimR] at h; exact noimR_mem h.2 i r (by simpa using hr)

/-- What another heap's values are in ours, its rows behind our own. -/
theorem shift_conc {C1 C' : Cx} {n : Nat} (hρ : ∀ (k : Nat) x, C1.ρ[k]? = some x → C'.ρ[n + k]? = some x) (hv : ∀ (k : Nat) x, C1.vs[k]? = some x → C'.vs[n + k]? = some x) (hw : C'.w = C1.w) {l : LV} {u : Value} (hc : Conc C1 l u) :
    (noim l = true ∨ ∀ (b off : Nat) u, ¬ C1.own b → ¬ C1.X b → C1.w.cell? ⟨b, off, none⟩ = some u → ¬ C'.own b ∧ ¬ C'.X b) → Conc C' (shL n l) u := by
  induction hc with
  | v x => intro _; exact .v x
  | p h1 h2 => intro _; exact .p (hρ _ _ h1) (hv _ _ h2)
  | pOld h1 h2 => intro _; exact .pOld (hv _ _ h1) h2
  | f h1 _ ih =>
    intro hn
    refine .f (by rw [shLs_length]; exact h1) fun i c u e1 e2 => ?_
    rw [shLs_get] at e1
    obtain ⟨x, hx, rfl⟩ := Option.map_eq_some_iff.1 e1
    exact ih i x u hx e2 (hn.imp (fun h => noimL_mem h i x hx) id)
  | sl h1 h2 h3 h4 => intro _; exact .sl (hρ _ _ h1) (hv _ _ h2) h3 (by rw [hw]; exact h4)
  | slOld h1 h2 => intro _; exact .slOld (hv _ _ h1) h2
  | im us h1 h2 h3 _ ih =>
    rename_i cells len c b o full _
    intro hn
    have emp : noim (.im cells len full) = true → cells = [] := fun h => by simpa [noim] using h
    refine .im us h1 h2 (fun i e he => ?_) (fun i e he => ?_)
    · rw [shLs_get] at he
      obtain ⟨x, hx, rfl⟩ := Option.map_eq_some_iff.1 he
      rcases hn with hn | hn
      · rw [emp hn] at hx; simp at hx
      · obtain ⟨a1, a2, a3⟩ := h3 i x hx
        obtain ⟨b1, b2⟩ := hn _ _ _ a1 a2 a3
        exact ⟨b1, b2, by rw [hw]; exact a3⟩
    · rw [shLs_get] at he
      obtain ⟨x, hx, rfl⟩ := Option.map_eq_some_iff.1 he
      rcases hn with hn | hn
      · rw [emp hn] at hx; simp at hx
      · exact ih i x hx (.inr hn)
  | pi us h3 _ ih =>
    rename_i cells b o _
    intro hn
    have emp : noim (.pi cells) = true → cells = [] := fun h => by simpa [noim] using h
    refine .pi us (fun i e he => ?_) (fun i e he => ?_)
    · rw [shLs_get] at he
      obtain ⟨x, hx, rfl⟩ := Option.map_eq_some_iff.1 he
      rcases hn with hn | hn
      · rw [emp hn] at hx; simp at hx
      · obtain ⟨a1, a2, a3⟩ := h3 i x hx
        obtain ⟨b1, b2⟩ := hn _ _ _ a1 a2 a3
        exact ⟨b1, b2, by rw [hw]; exact a3⟩
    · rw [shLs_get] at he
      obtain ⟨x, hx, rfl⟩ := Option.map_eq_some_iff.1 he
      rcases hn with hn | hn
      · rw [emp hn] at hx; simp at hx
      · exact ih i x hx (.inr hn)
  | agg h1 _ ih =>
    intro hn
    refine .agg (by rw [shLs_length]; exact h1) fun i c u e1 e2 => ?_
    rw [shLs_get] at e1
    obtain ⟨x, hx, rfl⟩ := Option.map_eq_some_iff.1 e1
    exact ih i x u hx e2 (hn.imp (fun h => noimL_mem h i x hx) id)
  | tup h1 _ ih =>
    intro hn
    refine .tup (by rw [shLs_length]; exact h1) fun i c u e1 e2 => ?_
    rw [shLs_get] at e1
    obtain ⟨x, hx, rfl⟩ := Option.map_eq_some_iff.1 e1
    exact ih i x u hx e2 (hn.imp (fun h => noimL_mem h i x hx) id)
  | ifc _ ih => intro hn; exact .ifc (ih (hn.imp (fun h => h) id))
  | bad u => intro _; exact .bad u

/-- Another heap's rows behind our own. -/
def Cx.join (C C1 : Cx) : Cx := ⟨C.ρ ++ C1.ρ, C.vs ++ C1.vs, C.X, C1.w⟩

theorem join_rel {C C1 : Cx} {h1 : List Row} {r : LV} {u : Value} (hr : Rel C B h) (hr1 : Rel C1 C.w.heap.size h1) (hb : Below C.w.heap.size C.w C1.w)
    (him : noimR h1 = true ∧ noim r = true ∨ ∀ (b off : Nat) u, ¬ C1.own b → ¬ C1.X b → C1.w.cell? ⟨b, off, none⟩ = some u → ¬ C.own b ∧ ¬ C.X b) (hc : Conc C1 r u) :
    Conc (C.join C1) (shL h.length r) u ∧ Rel (C.join C1) B (h ++ shR h.length h1) ∧ Le B C (C.join C1) ∧ Fr lim C (C.join C1) := by
  have hvl : C.vs.length = C.ρ.length := by rw [hr.vs, hr.len]; simp
  have holdlt : ∀ (k b q : Nat), C.ρ[k]? = some (some (b, q)) → b < C.w.heap.size := fun k b q hk => hr.own_lt ⟨k, q, hk⟩
  have hnewge : ∀ (k b q : Nat), C1.ρ[k]? = some (some (b, q)) → C.w.heap.size ≤ b := by
    intro k b q hk
    have hlt : k < h1.length := by rw [← hr1.len]; exact (List.getElem?_eq_some_iff.1 hk).1
    exact (hr1.row k b q h1[k] hk (by simp [hlt])).1
  have hget : ∀ {k : Nat} {x : Option (Nat × Nat)}, (C.join C1).ρ[k]? = some x → (k < h.length ∧ C.ρ[k]? = some x) ∨ (h.length ≤ k ∧ C1.ρ[k - h.length]? = some x) := by
    intro k x hk
    have e : (C.ρ ++ C1.ρ)[k]? = some x := hk
    rw [List.getElem?_append] at e
    rw [← hr.len]
    split at e
    · rename_i hlt; exact .inl ⟨hlt, e⟩
    · rename_i hlt; exact .inr ⟨by omega, e⟩
  have hown : ∀ b, (C.join C1).own b → C.own b ∨ C1.own b := by
    rintro b ⟨k, q, e⟩
    rcases hget e with ⟨_, e⟩ | ⟨_, e⟩
    · exact .inl ⟨k, q, e⟩
    · exact .inr ⟨_, q, e⟩
  have hold : ∀ (k : Nat) x, C.ρ[k]? = some x → (C.join C1).ρ[k]? = some x := fun k x hk => by
    show (C.ρ ++ C1.ρ)[k]? = _
    rw [List.getElem?_append_left (List.getElem?_eq_some_iff.1 hk).1]; exact hk
  have holdv : ∀ (k : Nat) x, C.vs[k]? = some x → (C.join C1).vs[k]? = some x := fun k x hk => by
    show (C.vs ++ C1.vs)[k]? = _
    rw [List.getElem?_append_left (List.getElem?_eq_some_iff.1 hk).1]; exact hk
  have hnew : ∀ (k : Nat) x, C1.ρ[k]? = some x → (C.join C1).ρ[h.length + k]? = some x := fun k x hk => by
    show (C.ρ ++ C1.ρ)[h.length + k]? = _
    rw [← hr.len, List.getElem?_append_right (by omega), Nat.add_sub_cancel_left]; exact hk
  have hnewv : ∀ (k : Nat) x, C1.vs[k]? = some x → (C.join C1).vs[h.length + k]? = some x := fun k x hk => by
    show (C.vs ++ C1.vs)[h.length + k]? = _
    rw [← hr.len, ← hvl, List.getElem?_append_right (by omega), Nat.add_sub_cancel_left]; exact hk
  have hgr := Le.grow hr.size hb
  have hroom : ∀ b n, b < C.w.heap.size → room C.w b n → room C1.w b n := by
    intro b n hlt ⟨vs, tt, e, hs⟩
    exact ⟨vs, tt, by rw [hb.block b hlt]; exact e, hs⟩
  have hclt : ∀ (b off : Nat) u, C.w.cell? ⟨b, off, none⟩ = some u → b < C.w.heap.size := fun b off u e3 => by
    rcases Nat.lt_or_ge b C.w.heap.size with h | h
    · exact h
    · unfold World.cell? at e3
      simp [Array.getElem?_eq_none h] at e3
  have hn1 : ∀ b, b < C.w.heap.size → ¬ C1.own b := fun b hlt ⟨k, q, e⟩ => by have := hnewge k b q e; omega
  have hle : Le B C (C.join C1) := by
    refine ⟨rfl, fun k ver b q e1 e2 => .inl ⟨hold _ _ e1, holdv _ _ e2, fun n hn => hroom b n (holdlt _ _ _ e1) hn⟩, fun k cur e => ⟨cur, holdv _ _ e, Nat.le_refl _⟩, fun b off u e1 e2 e3 => ?_, hb.mono hr.size, fun k e => hold _ _ e⟩
    have hlt := hclt b off u e3
    exact ⟨(hb.cell (p := ⟨b, off, none⟩) hlt).trans e3, fun ho => (hown b ho).elim e1 (hn1 b hlt)⟩
  have hsh : ∀ {l : LV} {u : Value}, (noimR h1 = true ∧ noim r = true → noim l = true) → Conc C1 l u → Conc (C.join C1) (shL h.length l) u := by
    intro l u hl hcl
    refine shift_conc (n := h.length) hnew hnewv rfl hcl ?_
    rcases him with him | him
    · exact .inl (hl him)
    · refine .inr fun b off u g1 g2 g3 => ?_
      obtain ⟨f1, f2⟩ := him b off u g1 g2 g3
      exact ⟨fun ho => (hown b ho).elim f1 g1, f2⟩
  refine ⟨hsh (fun h => h.2) hc, ⟨?_, ?_, ?_, ?_, fun b hx => ?_, Nat.le_trans hr.size hb.size⟩, hle, ⟨fun b hlt _ => hb.block b hlt, fun k b q e1 e2 e3 => ?_, hb.size⟩⟩
  · show (C.ρ ++ C1.ρ).length = _; simp [hr.len, hr1.len, shR_length]
  · show C.vs ++ C1.vs = (h ++ shR h.length h1).map Row.ver
    rw [List.map_append, ← hr.vs, hr1.vs]
    congr 1
    apply List.ext_getElem?
    intro i
    simp only [List.getElem?_map, shR_get]
    cases h1[i]? <;> rfl
  · intro k k' b q q' e1 e2
    rcases hget e1 with ⟨a1, a2⟩ | ⟨a1, a2⟩ <;> rcases hget e2 with ⟨c1, c2⟩ | ⟨c1, c2⟩
    · exact hr.inj k k' b q q' a2 c2
    · have := holdlt _ _ _ a2; have := hnewge _ _ _ c2; omega
    · have := holdlt _ _ _ c2; have := hnewge _ _ _ a2; omega
    · have := hr1.inj _ _ b q q' a2 c2; omega
  · intro k b q rr e1 e2
    rcases hget e1 with ⟨a1, a2⟩ | ⟨a1, a2⟩
    · rw [List.getElem?_append_left a1] at e2
      obtain ⟨x1, us, tt, x2, x3, x4⟩ := hr.row k b q rr a2 e2
      refine ⟨x1, us, tt, ?_, x3, fun i c hi => ?_⟩
      · show C1.w.heap[b]? = _
        rw [hb.block b (holdlt _ _ _ a2)]; exact x2
      · obtain ⟨u, y1, y2⟩ := x4 i c hi
        exact ⟨u, y1, y2.mono hle⟩
    · rw [List.getElem?_append_right a1, shR_get] at e2
      obtain ⟨r0, hr0, rfl⟩ := Option.map_eq_some_iff.1 e2
      obtain ⟨x1, us, tt, x2, x3, x4⟩ := hr1.row _ b q r0 a2 hr0
      refine ⟨Nat.le_trans hr.size x1, us, tt, x2, by simp only [shLs_length]; exact x3, fun i c hi => ?_⟩
      simp only [shLs_get] at hi
      obtain ⟨y, hy, rfl⟩ := Option.map_eq_some_iff.1 hi
      obtain ⟨u, y1, y2⟩ := x4 i y hy
      exact ⟨u, y1, hsh (fun hh => noimL_mem (noimR_mem hh.1 _ r0 hr0) i y hy) y2⟩
  · have hlt := (hr.X b hx).1
    refine ⟨Nat.lt_of_lt_of_le hlt hb.size, fun ho => (hown b ho).elim (hr.X b hx).2 (hn1 b hlt)⟩
  · rcases hget e2 with ⟨_, e⟩ | ⟨_, e⟩
    · exact ⟨k, q, e1, e⟩
    · have := hnewge _ _ _ e; omega

theorem callG_sound (hcal : CalOK P cal) {quiet : Bool} {g : FuncId} {as : List LV} {us : List Value} (hall : ConcL C as us) (hr : Rel C B h) (he : callG cal quiet lim h g as = some (l, h'))
    (hrun : ∀ fn, P.funcs[g]? = some fn → fn.body.isSome = true → fn.name ≠ "runtime.NumGoroutine" → (execOp a.eval o).run P C.w = .ok (.enter g us.toArray) C.w) :
    Done P ((execOp a.eval o).run P C.w) (OpPost B lim C h quiet l h') := by
  -- by itself: closed, or of what is not written
  have hX0 : ∀ b, (C.own b ∨ C.X b) → b < C.w.heap.size := fun b hb => by
    rcases hb with hb | hb
    · exact hr.own_lt hb
    · exact (hr.X b hb).1
  have clos : ∀ {q : Bool} {l : LV} {h' : List Row} (r : LV) (h1 : List Row), closedL as = true → cal g as [] 0 = some (r, h1) →
      (∀ (C' : Cx) u, C'.X = (fun b => C.own b ∨ C.X b) → Conc C' r u → Rel C' C.w.heap.size h1 → Below C.w.heap.size C.w C'.w → OpPost B lim C h q l h' u C'.w) → Done P ((execOp a.eval o).run P C.w) (OpPost B lim C h q l h') := by
    intro q l h' r h1 hcl hc hfin
    obtain ⟨⟨fn, e1, e2, e3⟩, hcalls⟩ := hcal _ _ _ _ _ _ hc
    rw [hrun fn e1 e2 e3]
    have hargs : ConcL ⟨[], [], fun b => C.own b ∨ C.X b, C.w⟩ as us :=
      ⟨hall.1, fun i c u f1 f2 => closed_conc (fun b off u g1 g2 g3 => ⟨fun ⟨k, q, hk⟩ => by have hk' : ([] : List (Option (Nat × Nat)))[k]? = some (some (b, q)) := hk; simp at hk', fun hh => hh.elim g1 g2, g3⟩) (hall.2 i c u f1 f2) (closedL_mem hcl i c f1)⟩
    refine (hcalls ⟨[], [], fun b => C.own b ∨ C.X b, C.w⟩ C.w.heap.size _ hargs (Rel.empty _ _ hX0)).mono ?_
    rintro e w' ⟨C', u, rfl, rfl, x1, x2, x3, x4⟩
    exact ⟨u, rfl, hfin C' u x3.X x1 x2 x3.below⟩
  have frzn : ∀ {q : Bool} {l : LV} {h' : List Row} (r : LV) (h1 : List Row), closedL (frzL h as) = true → cal g (frzL h as) [] 0 = some (r, h1) →
      (∀ (C' : Cx) u, C'.X = C.X → Conc C' r u → Rel C' C.w.heap.size h1 → Below C.w.heap.size C.w C'.w → OpPost B lim C h q l h' u C'.w) → Done P ((execOp a.eval o).run P C.w) (OpPost B lim C h q l h') := by
    intro q l h' r h1 hcl hc hfin
    obtain ⟨⟨fn, e1, e2, e3⟩, hcalls⟩ := hcal _ _ _ _ _ _ hc
    rw [hrun fn e1 e2 e3]
    refine (hcalls ⟨[], [], C.X, C.w⟩ C.w.heap.size _ (frzL_conc hr hall hcl) (Rel.empty _ _ fun b hb => (hr.X b hb).1)).mono ?_
    rintro e w' ⟨C', u, rfl, rfl, x1, x2, x3, x4⟩
    exact ⟨u, rfl, hfin C' u x3.X x1 x2 x3.below⟩
  have finC : ∀ {q : Bool} (r : LV) (h1 : List Row), closed (frz h1 r) = true → ∀ (C' : Cx) u, C'.X = (fun b => C.own b ∨ C.X b) → Conc C' r u → Rel C' C.w.heap.size h1 → Below C.w.heap.size C.w C'.w → OpPost B lim C h q (frz h1 r) h u C'.w := by
    intro q r h1 hcr C' u hXe x1 x2 hbel
    refine ⟨{ C with w := C'.w }, rfl, ?_, Rel.grow hr hbel, Le.grow hr.size hbel, Fr.grow rfl hbel, fun _ => ⟨rfl, rfl, rfl, hbel⟩⟩
    have y1 := frz_conc x2 x1 hcr
    refine closed_conc (fun b off u g1 g2 g3 => ?_) y1 hcr
    have g2' : ¬ C'.X b := g2
    rw [hXe] at g2'
    exact ⟨fun hh => g2' (.inl hh), fun hh => g2' (.inr hh), g3⟩
  have finF : ∀ {q : Bool} (r : LV), flat r = true → ∀ (C' : Cx) u, Conc C' r u → Below C.w.heap.size C.w C'.w → OpPost B lim C h q r h u C'.w := by
    intro q r hfl C' u x1 hbel
    exact ⟨{ C with w := C'.w }, rfl, flat_conc x1 hfl, Rel.grow hr hbel, Le.grow hr.size hbel, Fr.grow rfl hbel, fun _ => ⟨rfl, rfl, rfl, hbel⟩⟩
  unfold callG at he
  split at he
  · rename_i hq
    subst hq
    unfold callQ at he
    split at he
    · rename_i hcl
      split at he
      · rename_i r h1 hc
        split at he
        · rename_i hcr
          simp only [Option.some.injEq, Prod.mk.injEq] at he
          obtain ⟨rfl, rfl⟩ := he
          exact clos r h1 hcl hc (finC r h1 hcr)
        · simp at he
      · simp at he
    · split at he
      · rename_i hcl
        split at he
        · rename_i r h1 hc
          split at he
          · rename_i hfl
            simp only [Option.some.injEq, Prod.mk.injEq] at he
            obtain ⟨rfl, rfl⟩ := he
            exact frzn r h1 hcl hc fun C' u _ x1 _ hb => finF r hfl C' u x1 hb
          · simp at he
        · simp at he
      · split at he
        · rename_i r h1 hc
          split at he
          · rename_i hfl
            simp only [Option.some.injEq, Prod.mk.injEq] at he
            obtain ⟨rfl, rfl⟩ := he
            obtain ⟨⟨fn, e1, e2, e3⟩, hcalls⟩ := hcal _ _ _ _ _ _ hc
            rw [hrun fn e1 e2 e3]
            refine (hcalls C B _ hall hr).mono ?_
            rintro e w' ⟨C', u, rfl, rfl, x1, x2, x3, x4⟩
            have hb : Below C.w.heap.size C.w C'.w := x4.below x3.below (by rw [hr.len]; exact Nat.le_refl _)
            exact ⟨u, rfl, finF r hfl C' u x1 hb⟩
          · simp at he
        · simp at he
  · rename_i hq
    split at he
    · rename_i r0 rows hiso
      simp only [Option.some.injEq, Prod.mk.injEq] at he
      obtain ⟨rfl, rfl⟩ := he
      unfold isoE at hiso
      split at hiso
      · rename_i hcl
        split at hiso
        · rename_i r h1 hc
          split at hiso
          · rename_i hcr
            simp only [Option.some.injEq, Prod.mk.injEq] at hiso
            obtain ⟨rfl, rfl⟩ := hiso
            rw [List.append_nil]
            exact clos r h1 hcl hc (finC r h1 hcr)
          · simp only [Option.some.injEq, Prod.mk.injEq] at hiso
            obtain ⟨rfl, rfl⟩ := hiso
            refine clos r h1 hcl hc fun C' u hXe x1 x2 hbel => ?_
            obtain ⟨y1, y2, y3, y4⟩ := join_rel (lim := lim) hr x2 hbel (.inr fun b off u g1 g2 g3 => by rw [hXe] at g2; exact ⟨fun h => g2 (.inl h), fun h => g2 (.inr h)⟩) x1
            exact ⟨C.join C', rfl, y1, y2, y3, y4, fun hh => absurd hh hq⟩
        · simp at hiso
      · split at hiso
        · rename_i hcl
          split at hiso
          · rename_i r h1 hc
            split at hiso
            · rename_i hfl
              simp only [Option.some.injEq, Prod.mk.injEq] at hiso
              obtain ⟨rfl, rfl⟩ := hiso
              rw [List.append_nil]
              exact frzn r h1 hcl hc fun C' u _ x1 _ hb => finF r hfl C' u x1 hb
            · split at hiso
              · rename_i hni
                simp only [Bool.and_eq_true] at hni
                simp only [Option.some.injEq, Prod.mk.injEq] at hiso
                obtain ⟨rfl, rfl⟩ := hiso
                refine frzn r h1 hcl hc fun C' u _ x1 x2 hbel => ?_
                obtain ⟨y1, y2, y3, y4⟩ := join_rel (lim := lim) hr x2 hbel (.inl ⟨hni.2, hni.1⟩) x1
                exact ⟨C.join C', rfl, y1, y2, y3, y4, fun hh => absurd hh hq⟩
              · simp at hiso
          · simp at hiso
        · simp at hiso
    · -- a call in the heap as it is
      obtain ⟨⟨fn, e1, e2, e3⟩, hcalls⟩ := hcal _ _ _ _ _ _ he
      rw [hrun fn e1 e2 e3]
      refine (hcalls C B _ hall hr).mono ?_
      rintro e w' ⟨C', u, rfl, rfl, x1, x2, x3, x4⟩
      exact ⟨u, rfl, C', rfl, x1, x2, x3, x4, fun hh => absurd hh hq⟩

theorem call_sound (hcal : CalOK P cal) {quiet : Bool} {f : Operand} {args : List Operand} {mf : MO} {ms : List MO} (hf : cO f = some mf) (hm : cOs args = some ms)
    (hx : ∀ x, (x = f ∨ x ∈ args) → ∀ y, cO x = some y → Conc C (ev t y) (a.eval x)) (hr : Rel C B h) (he : evCall cal quiet lim t h mf ms = some (l, h')) (argT : Array TypeId) (ho : o.op = .call { callee := .value f, args := args.toArray, argTypes := argT }) :
    Done P ((execOp a.eval o).run P C.w) (OpPost B lim C h quiet l h') := by
  have hL := cOs_conc hm (fun x hx' y hy => hx x (.inr hx') y hy)
  have hF := hx f (.inl rfl) mf hf
  unfold evCall at he
  split at he
  · rename_i g cap hg
    rw [hg] at hF
    obtain ⟨us, hfe, c1, c2⟩ : ∃ us : List Value, a.eval f = .func (.func g) #[] us.toArray ∧ cap.length = us.length ∧ (∀ (i : Nat) c u, cap[i]? = some c → us[i]? = some u → Conc C c u) := by
      generalize a.eval f = v at hF
      cases hF with | f h1 h2 => exact ⟨_, rfl, h1, h2⟩
    have hall : ConcL C (ms.map (ev t) ++ cap) (args.map a.eval ++ us) := by
      refine ⟨by simp only [List.length_append, hL.1, c1], fun i c u e1 e2 => ?_⟩
      have hlen := hL.1
      rw [List.getElem?_append] at e1 e2
      split at e1
      · rename_i hi; rw [if_pos (by omega)] at e2; exact hL.2 _ _ _ e1 e2
      · rename_i hi; rw [if_neg (by omega)] at e2; rw [hlen] at e1; exact c2 _ _ _ e1 e2
    refine callG_sound hcal hall hr he fun fn e1 e2 e3 => ?_
    simp only [execOp, ho, resolve, hfe, Deferred.ofValue, Sem.run_bind, Sem.run_pure, Result.andThen_ok, invoke]
    simp [run_callFunc e1 e2 e3]
  · simp at he

theorem lookT_mtab {name : String} : ∀ (l : List TypeId) {d : TypeId} {g : FuncId}, lookT (l.filterMap fun t => (mtab1 P name t).map fun f => (t, f)) d = some g → mtab1 P name d = some g
  | [], d, g, h => by simp [lookT] at h
  | t :: l, d, g, h => by
    simp only [List.filterMap_cons] at h
    cases hm : mtab1 P name t with
    | none =>
      rw [hm] at h
      exact lookT_mtab l h
    | some f =>
      rw [hm] at h
      simp only [Option.map_some, lookT] at h
      split at h
      · rename_i htd
        subst htd
        rw [hm]; exact h
      · exact lookT_mtab l h

theorem run_method {name : String} {d : TypeId} {g : FuncId} (hm : mtab1 P name d = some g) (v : Value) (w : World) (n : Nat) : (method (n + 1) d v name).run P w = .ok (g, v) w := by
  unfold mtab1 at hm
  split at hm
  · rename_i i hi
    split at hm
    · rename_i m hf
      split at hm
      · rename_i hp
        have hp' : m.path.toList = [] := by simpa using hp
        have hti : (typeInfo d).run P w = .ok i w := by simp [typeInfo, hi]
        cases hmf : m.func with
        | none => simp [hmf] at hm
        | some q =>
          obtain ⟨f, pr⟩ := q
          cases hu : P.underlying d with
          | none => simp [hmf, hu] at hm
          | some td =>
            have hun := run_underlying hu w
            cases pr <;> cases td <;> simp [hmf, hu] at hm <;> subst hm <;> simp [method, hti, hf, hp', follow, hmf, receiverAt, hun, Place.get]
      · simp at hm
    · simp at hm
  · simp at hm

theorem inv_sound (hcal : CalOK P cal) {quiet : Bool} {r : Operand} {name : String} {args : List Operand} {mr : MO} {ms : List MO} (hf : cO r = some mr) (hm : cOs args = some ms)
    (hx : ∀ x, (x = r ∨ x ∈ args) → ∀ y, cO x = some y → Conc C (ev t y) (a.eval x)) (hr : Rel C B h) (he : evInv cal quiet lim t h (mtab P name) mr ms = some (l, h')) (argT : Array TypeId) (ho : o.op = .call { callee := .invoke r name, args := args.toArray, argTypes := argT }) :
    Done P ((execOp a.eval o).run P C.w) (OpPost B lim C h quiet l h') := by
  have hL := cOs_conc hm (fun x hx' y hy => hx x (.inr hx') y hy)
  have hF := hx r (.inl rfl) mr hf
  unfold evInv at he
  split at he
  · rename_i d x hg
    rw [hg] at hF
    obtain ⟨u, hfe, hu⟩ : ∃ u, a.eval r = .iface d u ∧ Conc C x u := by
      generalize a.eval r = v at hF
      cases hF with | ifc h => exact ⟨_, rfl, h⟩
    split at he
    · rename_i g hlook
      have hmt := lookT_mtab _ hlook
      have hall : ConcL C (x :: ms.map (ev t)) (u :: args.map a.eval) := by
        refine ⟨by simp only [List.length_cons, hL.1], fun i c v e1 e2 => ?_⟩
        cases i with
        | zero => simp at e1 e2; subst e1; subst e2; exact hu
        | succ i => exact hL.2 i c v (by simpa using e1) (by simpa using e2)
      refine callG_sound hcal hall hr he fun fn e1 e2 e3 => ?_
      have hmeth : (method (P.types.size + Made.depth) d u name).run P C.w = .ok (g, u) C.w := run_method hmt u C.w _
      have hargs : ((#[a.eval r] ++ Array.map a.eval args.toArray).extract 1 (args.length + 1)) = (args.map a.eval).toArray := by
        simp [List.take_of_length_le]
      have hl : ∀ (v : Value), (#[v] ++ (args.map a.eval).toArray)[0]? = some v := fun v => by simp
      simp [execOp, ho, resolve, invoke, hfe, callMethod, hmeth, run_callFunc e1 e2 e3, List.take_of_length_le]
    · simp at he
  · simp at he

theorem call_only {mf : MO} {ms : List MO} (hm : cOp0 P o = some (.call mf ms)) : ∃ c, o.op = .call c ∧ ((∃ f, c.callee = .value f) ∨ ∃ r n, c.callee = .invoke r n) := by
  cases ho : o.op <;> simp only [cOp0, ho] at hm <;> try (first | (simp at hm; done) | (simp only [Option.map_eq_some_iff] at hm; obtain ⟨_, _, hh⟩ := hm; cases hh; done))
  case pick => simp [Option.bind_eq_some_iff] at hm
  case slice ty x lo hi mx =>
    split at hm <;> try (simp at hm; done)
    all_goals (split at hm <;> simp [Option.bind_eq_some_iff] at hm)
  case sliceToArrayPointer => split at hm <;> simp at hm
  case makeSlice =>
    split at hm <;> try (simp at hm; done)
    split at hm <;> try (simp at hm; done)
    split at hm <;> try (simp at hm; done)
    split at hm <;> simp at hm
  case typeAssert =>
    split at hm <;> try (simp at hm; done)
    split at hm <;> simp at hm
  case build ty ps => split at hm <;> try (simp at hm; done)
                      all_goals (split at hm <;> simp at hm)
  case buildSlice => split at hm <;> try (simp at hm; done)
                     split at hm <;> try (simp at hm; done)
  case load => simp [Option.bind_eq_some_iff] at hm
  case store => simp [Option.bind_eq_some_iff] at hm
  case fieldAddr => split at hm <;> simp [Option.bind_eq_some_iff] at hm
  case field => split at hm <;> simp [Option.bind_eq_some_iff] at hm
  case indexAddr => split at hm <;> simp [Option.bind_eq_some_iff] at hm
  case index => split at hm <;> simp [Option.bind_eq_some_iff] at hm
  case binOp op ty x y u =>
    split at hm
    · simp [Option.bind_eq_some_iff] at hm
    · split at hm <;> try (simp at hm; done)
      all_goals (
        unfold cEq at hm
        split at hm
        · split at hm <;> try (simp at hm; done)
          split at hm <;> simp at hm
        · split at hm <;> try (simp at hm; done)
          split at hm <;> simp at hm)
  case convert => split at hm <;> try (simp at hm; done)
                  split at hm <;> simp at hm
  case makeInterface => split at hm <;> simp at hm
  case makeFunc fn _ _ => cases fn <;> simp at hm
  case call c =>
    obtain ⟨callee, args, argT⟩ := c
    cases callee with
    | value f => exact ⟨_, rfl, .inl ⟨f, rfl⟩⟩
    | invoke r n => exact ⟨_, rfl, .inr ⟨r, n, rfl⟩⟩
    | builtin b =>
      exfalso
      cases b <;> simp at hm
      case append =>
        obtain ⟨_, _, _, _, _, _, _, _, _, _, _, _, _, _, _, _, hh⟩ := cApp_inv hm
        cases hh
      case clear =>
        split at hm <;> try (simp at hm; done)
        split at hm <;> try (simp at hm; done)
      case len => split at hm <;> simp at hm

theorem inv_only {tab : List (TypeId × FuncId)} {mf : MO} {ms : List MO} (hm : cOp0 P o = some (.inv tab mf ms)) : ∃ c, o.op = .call c ∧ ((∃ f, c.callee = .value f) ∨ ∃ r n, c.callee = .invoke r n) := by
  cases ho : o.op <;> simp only [cOp0, ho] at hm <;> try (first | (simp at hm; done) | (simp only [Option.map_eq_some_iff] at hm; obtain ⟨_, _, hh⟩ := hm; cases hh; done))
  case pick => simp [Option.bind_eq_some_iff] at hm
  case slice ty x lo hi mx =>
    split at hm <;> try (simp at hm; done)
    all_goals (split at hm <;> simp [Option.bind_eq_some_iff] at hm)
  case sliceToArrayPointer => split at hm <;> simp at hm
  case makeSlice =>
    split at hm <;> try (simp at hm; done)
    split at hm <;> try (simp at hm; done)
    split at hm <;> try (simp at hm; done)
    split at hm <;> simp at hm
  case typeAssert =>
    split at hm <;> try (simp at hm; done)
    split at hm <;> simp at hm
  case build ty ps => split at hm <;> try (simp at hm; done)
                      all_goals (split at hm <;> simp at hm)
  case buildSlice => split at hm <;> try (simp at hm; done)
                     split at hm <;> try (simp at hm; done)
  case load => simp [Option.bind_eq_some_iff] at hm
  case store => simp [Option.bind_eq_some_iff] at hm
  case fieldAddr => split at hm <;> simp [Option.bind_eq_some_iff] at hm
  case field => split at hm <;> simp [Option.bind_eq_some_iff] at hm
  case indexAddr => split at hm <;> simp [Option.bind_eq_some_iff] at hm
  case index => split at hm <;> simp [Option.bind_eq_some_iff] at hm
  case binOp op ty x y u =>
    split at hm
    · simp [Option.bind_eq_some_iff] at hm
    · split at hm <;> try (simp at hm; done)
      all_goals (
        unfold cEq at hm
        split at hm
        · split at hm <;> try (simp at hm; done)
          split at hm <;> simp at hm
        · split at hm <;> try (simp at hm; done)
          split at hm <;> simp at hm)
  case convert => split at hm <;> try (simp at hm; done)
                  split at hm <;> simp at hm
  case makeInterface => split at hm <;> simp at hm
  case makeFunc fn _ _ => cases fn <;> simp at hm
  case call c =>
    obtain ⟨callee, args, argT⟩ := c
    cases callee with
    | value f => exact ⟨_, rfl, .inl ⟨f, rfl⟩⟩
    | invoke r n => exact ⟨_, rfl, .inr ⟨r, n, rfl⟩⟩
    | builtin b =>
      exfalso
      cases b <;> simp at hm
      case append =>
        obtain ⟨_, _, _, _, _, _, _, _, _, _, _, _, _, _, _, _, hh⟩ := cApp_inv hm
        cases hh
      case clear =>
        split at hm <;> try (simp at hm; done)
        split at hm <;> try (simp at hm; done)
      case len => split at hm <;> simp at hm

theorem any_sound (hcal : CalOK P cal) {quiet : Bool} {m : MOp} (hm : cOp P o = some m) (hx : ∀ x ∈ o.op.operands, ∀ y, cO x = some y → Conc C (ev t y) (a.eval x)) (hr : Rel C B h)
    (he : evAny cal quiet lim m t h = some (l, h')) (hq : quiet = true → quietOp m = true) : Done P ((execOp a.eval o).run P C.w) (OpPost B lim C h quiet l h') := by
  have plain : evOp m t h lim = some (l, h') → Done P ((execOp a.eval o).run P C.w) (OpPost B lim C h quiet l h') := fun he' =>
    (op_sound hm hx hr he').mono fun u w ⟨C', h1, h2, h3, h4, h6, h5⟩ => ⟨C', h1, h2, h3, h4, h6, fun hh => h5 (hq hh)⟩
  by_cases hcall : ∃ c, o.op = .call c ∧ ((∃ f, c.callee = .value f) ∨ ∃ r n, c.callee = .invoke r n)
  · obtain ⟨⟨callee, args, argT⟩, ho, hc⟩ := hcall
    rcases cOp_cases hm with h1 | rfl
    · rcases hc with ⟨f, hf⟩ | ⟨r, n, hf⟩
      · simp only at hf
        subst hf
        simp only [cOp0, ho, Option.bind_eq_bind, Option.bind_eq_some_iff, Option.pure_def, Option.some.injEq] at h1
        obtain ⟨y, h1, z, h2, rfl⟩ := h1
        rw [ho] at hx
        exact call_sound hcal h1 h2 (fun x hx' y hy => hx x (by
          rcases hx' with rfl | hx'
          · simp [Op.operands, Call.operands]
          · simp only [Op.operands, Call.operands, Array.mem_append]; exact .inr (by simpa using hx')) y hy) hr he argT (by simpa using ho)
      · simp only at hf
        subst hf
        simp only [cOp0, ho, Option.bind_eq_bind, Option.bind_eq_some_iff, Option.pure_def, Option.some.injEq] at h1
        obtain ⟨y, h1, z, h2, rfl⟩ := h1
        rw [ho] at hx
        exact inv_sound hcal h1 h2 (fun x hx' y hy => hx x (by
          rcases hx' with rfl | hx'
          · simp [Op.operands, Call.operands]
          · simp only [Op.operands, Call.operands, Array.mem_append]; exact .inr (by simpa using hx')) y hy) hr he argT (by simpa using ho)
    · exact plain he
  · refine plain ?_
    cases m <;> first
      | exact he
      | (exfalso
         rcases cOp_cases hm with h1 | h1
         · first | exact hcall (call_only h1) | exact hcall (inv_only h1)
         · cases h1)
end
end Go.Proofs.Ytjgnjpbplnmdmaa
