/- Each operation that calls nothing does in the machine what the evaluator says. -/
import Derived.Test.YtjgnjpbplnmdmaaEng2
import Derived.Laws.StructEq
namespace Go.Proofs.Ytjgnjpbplnmdmaa
open Go Go.RowKit

/-- An operation's run has come to a value, or calls a function that will hand one back. -/
def Done (P : Program) (r : Result Next) (K : Value → World → Prop) : Prop :=
  match r with
  | .ok (.value u) w' => K u w'
  | .ok .skip w' => K undef w'
  | .ok (.enter f args) w' => Calls P f args w' (fun e w'' => ∃ u, e = .returned u ∧ K u w'')
  | _ => False

theorem Done.mono {P : Program} {r : Result Next} {K K' : Value → World → Prop} (h : Done P r K) (hk : ∀ u w, K u w → K' u w) : Done P r K' := by
  cases r with
  | ok n w =>
    cases n <;> simp only [Done] at h ⊢ <;> first
      | exact hk _ _ h
      | exact h.mono fun e w' ⟨u, h1, h2⟩ => ⟨u, h1, hk _ _ h2⟩
  | halt x w => simp only [Done] at h

/-- What an operation leaves. -/
def OpPost (B lim : Nat) (C : Cx) (h : List Row) (q : Bool) (l : LV) (h' : List Row) (u : Value) (w' : World) : Prop :=
  ∃ C' : Cx, C'.w = w' ∧ Conc C' l u ∧ Rel C' B h' ∧ Le B C C' ∧ Fr lim C C' ∧ (q = true → h' = h ∧ C'.ρ = C.ρ ∧ C'.vs = C.vs ∧ Below C.w.heap.size C.w w')

theorem OpPost.same {B lim : Nat} {C : Cx} {h : List Row} {q : Bool} {l : LV} {u : Value} (hr : Rel C B h) (hc : Conc C l u) : OpPost B lim C h q l h u C.w :=
  ⟨C, rfl, hc, hr, Le.refl _ _, Fr.refl _ _, fun _ => ⟨rfl, rfl, rfl, Below.refl _ _⟩⟩

section
variable {P : Program} {o : Oper} {a : Act} {t : List LV} {h h' : List Row} {lim B : Nat} {C : Cx} {l : LV}

theorem done_value {q : Bool} {u : Value} (hr : Rel C B h) (hc : Conc C l u) (hrun : (execOp a.eval o).run P C.w = .ok (.value u) C.w) : Done P ((execOp a.eval o).run P C.w) (OpPost B lim C h q l h) := by
  rw [hrun]; exact OpPost.same hr hc

/-- The row that a pointer of the present version leads to. -/
theorem Conc.p_inv {k ver off : Nat} {cs : List LV} {u : Value} (hr : Rel C B h) (hc : Conc C (.p k ver off) u) (hrow : rowOf h k ver = some cs) :
    ∃ b o us ty, u = .pointer (some ⟨b, o + off, none⟩) ∧ C.ρ[k]? = some (some (b, o)) ∧ C.vs[k]? = some ver ∧ h[k]? = some ⟨ver, cs⟩ ∧ B ≤ b ∧ C.w.heap[b]? = some (.cells us ty (0, 0)) ∧ o + cs.length ≤ us.size ∧ ∀ (i : Nat) c, cs[i]? = some c → ∃ u, us[o + i]? = some u ∧ Conc C c u := by
  unfold rowOf at hrow
  cases hk : h[k]? with
  | none => simp [hk] at hrow
  | some r =>
    simp only [hk] at hrow
    split at hrow
    · rename_i hv
      have hcs : r.cells = cs := by simpa using hrow
      have hvs : C.vs[k]? = some ver := by rw [hr.vs, List.getElem?_map, hk]; simp [hv]
      have hr' : h[k]? = some ⟨ver, cs⟩ := by rw [hk]; cases r; simp at hv hcs; subst hv; subst hcs; rfl
      cases hc with
      | p h1 h2 =>
        rename_i b o
        obtain ⟨a1, us, ty, a2, a3, a4⟩ := hr.row k b o _ h1 hr'
        exact ⟨b, o, us, ty, rfl, h1, hvs, hk.symm.trans hr', a1, a2, a3, a4⟩
      | pOld h1 h2 => rw [hvs] at h1; simp at h1; omega
    · simp at hrow

theorem Conc.sl_inv {k ver off len esz cap : Nat} {cs : List LV} {u : Value} (hr : Rel C B h) (hc : Conc C (.sl k ver off len esz cap) u) (hrow : rowOf h k ver = some cs) :
    ∃ b o us ty c, u = .slice (some ⟨b, o + off, none⟩) len c ∧ (len ≤ cap ∧ cap ≤ c) ∧ room C.w b (o + off + c * esz) ∧ C.ρ[k]? = some (some (b, o)) ∧ C.vs[k]? = some ver ∧ h[k]? = some ⟨ver, cs⟩ ∧ B ≤ b ∧ C.w.heap[b]? = some (.cells us ty (0, 0)) ∧ o + cs.length ≤ us.size ∧ ∀ (i : Nat) c, cs[i]? = some c → ∃ u, us[o + i]? = some u ∧ Conc C c u := by
  unfold rowOf at hrow
  cases hk : h[k]? with
  | none => simp [hk] at hrow
  | some r =>
    simp only [hk] at hrow
    split at hrow
    · rename_i hv
      have hcs : r.cells = cs := by simpa using hrow
      have hvs : C.vs[k]? = some ver := by rw [hr.vs, List.getElem?_map, hk]; simp [hv]
      have hr' : h[k]? = some ⟨ver, cs⟩ := by rw [hk]; cases r; simp at hv hcs; subst hv; subst hcs; rfl
      cases hc with
      | sl h1 h2 h3 h4 =>
        rename_i b o c
        obtain ⟨a1, us, ty, a2, a3, a4⟩ := hr.row k b o _ h1 hr'
        exact ⟨b, o, us, ty, c, rfl, h3, h4, h1, hvs, hk.symm.trans hr', a1, a2, a3, a4⟩
      | slOld h1 h2 => rw [hvs] at h1; simp at h1; omega
    · simp at hrow

theorem run_sizeT {ty n : Nat} (h : sizeT P ty = some n) (w : World) : (sizeOf ty).run P w = .ok n w := by
  unfold sizeT at h
  cases hi : P.info? ty with
  | none => simp [hi] at h
  | some i =>
    simp [hi] at h
    simp [sizeOf, typeInfo, hi, h]

/-- A variable of whatever shape is read. -/
theorem run_loadVar_shape {ty : TypeId} {n : Option Nat} (hs : shapeT P ty = some n) (w : World) (b o : Nat) (us : Nat → Value)
    (hc : ∀ j, j < n.getD 1 → w.cell? ⟨b, o + j, none⟩ = some (us j)) :
    (loadVar ty ⟨b, o, none⟩).run P w = .ok (shaped n us) w := by
  have agg : ∀ m, n = some m → sizeT P ty = some m → (loadCells ⟨b, o, none⟩ m).run P w = .ok ((List.range m).map us).toArray w := by
    intro m hn _
    subst hn
    exact run_loadCells (P := P) w ⟨b, o, none⟩ m us (fun j hj => by rw [addr_add]; exact hc j hj)
  unfold shapeT at hs
  cases hu : P.underlying ty with
  | none => simp [hu] at hs
  | some d =>
    have hun := run_underlying hu w
    cases d <;> simp only [hu] at hs
    case struct fs =>
      cases hz : sizeT P ty with
      | none => simp [hz] at hs
      | some m =>
        simp [hz] at hs
        subst hs
        simp [loadVar, isAgg, hun, run_sizeT hz, agg m rfl hz, shaped]
    case array k e =>
      cases hz : sizeT P ty with
      | none => simp [hz] at hs
      | some m =>
        simp [hz] at hs
        subst hs
        simp [loadVar, isAgg, hun, run_sizeT hz, agg m rfl hz, shaped]
    all_goals
      split at hs
      · simp at hs
        subst hs
        have h0 := hc 0 (by simp)
        simp only [Nat.add_zero] at h0
        simp [loadVar, isAgg, hun, h0, shaped]
      · simp at hs

theorem sound_load {ty : TypeId} {x : Operand} {y : MO} {n : Option Nat} (ho : o.op = .load ty x) (hs : shapeT P ty = some n) (hx : Conc C (ev t y) (a.eval x)) (hr : Rel C B h)
    (he : evOp (.ld y n) t h lim = some (l, h')) : Done P ((execOp a.eval o).run P C.w) (OpPost B lim C h true l h') := by
  have hex : ∀ u, (Instr.loadAt ty (a.eval x)).run P C.w = .ok u C.w → (execOp a.eval o).run P C.w = .ok (.value u) C.w := by
    intro u hu; simp [execOp, ho, hu]
  simp only [evOp] at he
  generalize hl : ev t y = lv at hx he
  cases lv with
  | p k ver off =>
    simp only [Option.map_eq_some_iff, Option.bind_eq_some_iff, Prod.mk.injEq] at he
    obtain ⟨z, ⟨cs, hrow, hrd⟩, rfl, rfl⟩ := he
    obtain ⟨b, q, us, tt, hu, h1, h2, h3, h4, h5, h6, h7⟩ := Conc.p_inv hr hx hrow
    have hus : ∀ (i : Nat) e, cs[i]? = some e → Conc C e (us.getD (q + i) undef) := fun i e hi => by
      obtain ⟨v, e1, e2⟩ := h7 i e hi
      have : us.getD (q + i) undef = v := by simp [e1]
      rw [this]; exact e2
    obtain ⟨hf, hrc⟩ := rdAt_conc hus hrd
    have hcell : ∀ j, off + j < cs.length → C.w.cell? ⟨b, q + off + j, none⟩ = some (us.getD (q + (off + j)) undef) := fun j hj => by
      rw [cell_of_row C.w b _ us tt (0, 0) h5]
      have e : q + off + j = q + (off + j) := by omega
      have hlt : q + (off + j) < us.size := by omega
      rw [e]; simp [hlt]
    have hrun := run_loadVar_shape hs C.w b (q + off) (fun j => us.getD (q + (off + j)) undef) (fun j hj => hcell j (by omega))
    refine done_value hr hrc (hex _ ?_)
    rw [hu]
    simp only [Instr.loadAt, Instr.sureAddr, Sem.run_bind, Sem.run_pure, Result.andThen_ok, hrun]
  | pi cs =>
    simp only [Option.map_eq_some_iff, Prod.mk.injEq] at he
    obtain ⟨z, hrd, rfl, rfl⟩ := he
    obtain ⟨b, q, us, hu, h1, h2⟩ := hx.pi_inv
    · obtain ⟨hf, hrc⟩ := rdAt_conc (us := us) h2 hrd
      have hrun := run_loadVar_shape hs C.w b q us (fun j hj => by
        have hj' : j < cs.length := by omega
        exact (h1 j cs[j] (by simp [hj'])).2.2)
      refine done_value hr (by simpa using hrc) (hex _ ?_)
      rw [hu]
      simp only [Instr.loadAt, Instr.sureAddr, Sem.run_bind, Sem.run_pure, Result.andThen_ok, hrun]
  | _ => simp at he

theorem sound_mv {x : Operand} {y : MO} (ho : o.op = .move x ∨ o.op = .assign x) (hx : Conc C (ev t y) (a.eval x)) (hr : Rel C B h)
    (he : evOp (.mv y) t h lim = some (l, h')) : Done P ((execOp a.eval o).run P C.w) (OpPost B lim C h true l h') := by
  simp only [evOp, Option.some.injEq, Prod.mk.injEq] at he
  obtain ⟨rfl, rfl⟩ := he
  refine done_value hr hx ?_
  rcases ho with ho | ho <;> simp [execOp, ho]

theorem sound_pick {x y z : Operand} {mx my mz : MO} (ho : o.op = .pick x y z) (hx : Conc C (ev t mx) (a.eval x)) (hy : Conc C (ev t my) (a.eval y)) (hz : Conc C (ev t mz) (a.eval z)) (hr : Rel C B h)
    (he : evOp (.pick mx my mz) t h lim = some (l, h')) : Done P ((execOp a.eval o).run P C.w) (OpPost B lim C h true l h') := by
  simp only [evOp] at he
  split at he
  · rename_i q hq
    rw [hq] at hx
    have hv := hx.v_inv
    simp only [Option.some.injEq, Prod.mk.injEq] at he
    obtain ⟨rfl, rfl⟩ := he
    refine done_value (u := if q then a.eval y else a.eval z) hr (by cases q; exact hz; exact hy) ?_
    simp [execOp, ho, hv, asBool]
  · simp at he

theorem below_setRow {B : Nat} {w : World} {g : Nat} {cs : Array Value} (hg : B ≤ g) : Below B w (w.setRow g cs) :=
  ⟨rfl, rfl, rfl, by simp, fun k hk => setRow_other w g k cs (by omega)⟩

/-- A row is written. -/
theorem Rel.write {k ver b q : Nat} {cs ys : List LV} {us us' : Array Value} {ty : TypeId} (hr : Rel C B h) (h1 : C.ρ[k]? = some (some (b, q))) (h3 : h[k]? = some ⟨ver, cs⟩) (h4 : B ≤ b) (h5 : C.w.heap[b]? = some (.cells us ty (0, 0)))
    (hsz : us'.size = us.size) (hlen : q + ys.length ≤ us.size) (hys : ∀ (i : Nat) c, ys[i]? = some c → ∃ u, us'[q + i]? = some u ∧ Conc C c u) :
    Rel { C with w := C.w.setRow b us' } B (h.set k ⟨ver, ys⟩) ∧ Le B C { C with w := C.w.setRow b us' } := by
  have hk : k < h.length := (List.getElem?_eq_some_iff.1 h3).1
  have hown : C.own b := ⟨k, q, h1⟩
  have hle : Le B C { C with w := C.w.setRow b us' } := by
    refine ⟨rfl, fun k' ver' b' o' e1 e2 => .inl ⟨e1, e2, fun n hn => ?_⟩, fun _ cur h => ⟨cur, h, Nat.le_refl _⟩, fun b' off u e1 e2 e3 => ⟨?_, e1⟩, below_setRow h4, fun _ h => h⟩
    · obtain ⟨vs, tt, e, hs⟩ := hn
      by_cases hb : b' = b
      · subst hb
        rw [h5] at e
        simp at e
        obtain ⟨rfl, rfl⟩ := e
        exact ⟨us', ty, setRow_heap C.w b' us us' ty (0, 0) h5, by omega⟩
      · exact ⟨vs, tt, by show (C.w.setRow b us').heap[b']? = _; rw [setRow_other C.w b b' us' hb]; exact e, hs⟩
    · show (C.w.setRow b us').cell? _ = _
      rw [cell_setRow_other C.w b us' _ (fun hb => e1 (by rw [show b' = b from hb]; exact hown))]
      exact e3
  refine ⟨⟨by simpa using hr.len, ?_, hr.inj, ?_, fun b hx => ⟨by simpa using (hr.X b hx).1, (hr.X b hx).2⟩, by simpa using hr.size⟩, hle⟩
  · rw [hr.vs]
    apply List.ext_getElem?
    intro i
    simp only [List.getElem?_map, List.getElem?_set]
    by_cases hi : k = i
    · subst hi; obtain ⟨_, e⟩ := List.getElem?_eq_some_iff.1 h3; simp [hk, e]
    · simp [hi]
  · intro k' b' o' r e1 e2
    rw [List.getElem?_set] at e2
    by_cases hi : k = k'
    · subst hi
      simp [hk] at e2
      subst e2
      have e1' : C.ρ[k]? = some (some (b', o')) := e1
      rw [h1] at e1'
      simp at e1'
      obtain ⟨rfl, rfl⟩ := e1'
      refine ⟨h4, us', ty, setRow_heap C.w b us us' ty (0, 0) h5, by simpa [hsz] using hlen, fun i c hi => ?_⟩
      obtain ⟨u, x1, x2⟩ := hys i c hi
      exact ⟨u, x1, x2.mono hle⟩
    · rw [if_neg hi] at e2
      obtain ⟨x1, vs, tt, x2, x3, x4⟩ := hr.row k' b' o' r e1 e2
      have hb : b' ≠ b := fun hb => by subst hb; exact hi (hr.inj k k' b' q o' h1 e1)
      refine ⟨x1, vs, tt, ?_, x3, fun i c hi' => ?_⟩
      · show (C.w.setRow b us').heap[b']? = _
        rw [setRow_other C.w b b' us' hb]; exact x2
      · obtain ⟨u, y1, y2⟩ := x4 i c hi'
        exact ⟨u, y1, y2.mono hle⟩

theorem sound_store {ty : TypeId} {x y : Operand} {mx my : MO} {n : Nat} (ho : o.op = .store ty x y) (hs : sizeT P ty = some n) (hx : Conc C (ev t mx) (a.eval x)) (hy : Conc C (ev t my) (a.eval y)) (hr : Rel C B h)
    (he : evOp (.st mx my n) t h lim = some (l, h')) : Done P ((execOp a.eval o).run P C.w) (OpPost B lim C h false l h') := by
  simp only [evOp] at he
  generalize hl : ev t mx = lv at hx he
  cases lv with
  | p k ver off =>
    simp only at he
    split at he
    · simp at he
    · cases hrow : rowOf h k ver with
      | none => simp [hrow] at he
      | some cs =>
        simp only [hrow] at he
        split at he
        · rename_i hcond
          obtain ⟨hn, hoff, hat⟩ := hcond
          simp only [Option.some.injEq, Prod.mk.injEq] at he
          obtain ⟨rfl, rfl⟩ := he
          obtain ⟨b, q, us, tt, hu, h1, h2, h3, h4, h5, h6, h7⟩ := Conc.p_inv hr hx hrow
          obtain ⟨⟨c1, c2⟩, c3⟩ := hy.cells hat
          have hsize : (a.eval y).cells.size = n := by rw [← hn]; simpa using c1.symm
          have hrun := run_storeCells_at P b (q + off) tt (a.eval y).cells.toList 0 us C.w h5 (by simp only [Array.length_toList, hsize]; omega) c3
          simp only [Nat.add_zero] at hrun
          have hw := Rel.write (ys := putR cs off (ev t my).cells) (us' := (us.toList.take (q + off) ++ (a.eval y).cells.toList ++ us.toList.drop (q + off + (a.eval y).cells.toList.length)).toArray) hr h1 h3 h4 h5
            (by simp only [List.size_toArray, List.length_append, List.length_take, List.length_drop, Array.length_toList, hsize]; omega)
            (by rw [putR_length _ _ _ (by omega)]; exact h6)
            (fun i c hi => by
              unfold putR at hi
              rw [seg_get _ _ _ (by omega)] at hi
              simp only [List.getElem?_toArray]
              rw [seg_get _ _ _ (by simp only [Array.length_toList, hsize]; omega)]
              by_cases hin : off ≤ i ∧ i < off + (ev t my).cells.length
              · rw [if_pos hin] at hi
                rw [if_pos ⟨by omega, by simp only [Array.length_toList, hsize]; omega⟩]
                have hlt : i - off < (a.eval y).cells.toList.length := by simp only [Array.length_toList, hsize]; omega
                refine ⟨(a.eval y).cells.toList[i - off], ?_, c2 (i - off) c _ hi (List.getElem?_eq_getElem hlt)⟩
                rw [show q + i - (q + off) = i - off by omega, List.getElem?_eq_getElem hlt]
              · rw [if_neg hin] at hi
                rw [if_neg (by simp only [Array.length_toList, hsize]; omega)]
                obtain ⟨u, y1, y2⟩ := h7 i c hi
                exact ⟨u, by simpa using y1, y2⟩)
          have hex : (execOp a.eval o).run P C.w = .ok .skip (C.w.setRow b (us.toList.take (q + off) ++ (a.eval y).cells.toList ++ us.toList.drop (q + off + (a.eval y).cells.toList.length)).toArray) := by
            simp only [execOp, ho, Instr.storeAt, hu, Instr.sureAddr, storeVar, Sem.run_bind, Sem.run_pure, Result.andThen_ok, run_sizeT hs, hsize, ne_eq, not_true_eq_false, if_false, hrun]
          rw [hex]
          refine ⟨_, rfl, .v _, hw.1, hw.2, ⟨fun b' hb hno => ?_, fun k' b' o' e1 e2 _ => ⟨k', o', e1, e2⟩, by simp⟩, fun h => by simp at h⟩
          exact setRow_other C.w b b' _ (fun hbb => hno k q (by omega) (by rw [hbb]; exact h1))
        · simp at he
  | _ => simp at he

/-- A new row. -/
theorem Rel.push {cs : List LV} {us : Array Value} {ty : TypeId} (hr : Rel C B h) (hc : ConcL C cs us.toList) :
    Rel ⟨C.ρ ++ [some (C.w.heap.size, 0)], C.vs ++ [0], C.X, C.w.alloc (.cells us ty (0, 0))⟩ B (h ++ [⟨0, cs⟩]) ∧ Le B C ⟨C.ρ ++ [some (C.w.heap.size, 0)], C.vs ++ [0], C.X, C.w.alloc (.cells us ty (0, 0))⟩ := by
  have hbelow : Below C.w.heap.size C.w (C.w.alloc (.cells us ty (0, 0))) := (Below.refl _ _).alloc (Nat.le_refl _) _
  have hold : ∀ (k b q : Nat), C.ρ[k]? = some (some (b, q)) → b < C.w.heap.size := by
    intro k b q hk
    have hlt : k < h.length := by rw [← hr.len]; exact (List.getElem?_eq_some_iff.1 hk).1
    obtain ⟨_, us, tt, e, _⟩ := hr.row k b q h[k] hk (by simp [hlt])
    exact (Array.getElem?_eq_some_iff.1 e).1
  have hvl : C.vs.length = C.ρ.length := by rw [hr.vs, hr.len]; simp
  have hle : Le B C ⟨C.ρ ++ [some (C.w.heap.size, 0)], C.vs ++ [0], C.X, C.w.alloc (.cells us ty (0, 0))⟩ := by
    refine ⟨rfl, fun k ver b q e1 e2 => .inl ⟨?_, ?_, fun n hn => ?_⟩, fun k cur e => ⟨cur, ?_, Nat.le_refl _⟩, fun b off u e1 e2 e3 => ?_, hbelow.mono hr.size, fun k e => by show (C.ρ ++ _)[k]? = _; rw [List.getElem?_append_left (List.getElem?_eq_some_iff.1 e).1]; exact e⟩
    · show (C.ρ ++ _)[k]? = _
      rw [List.getElem?_append_left (List.getElem?_eq_some_iff.1 e1).1]; exact e1
    · show (C.vs ++ _)[k]? = _
      rw [List.getElem?_append_left (List.getElem?_eq_some_iff.1 e2).1]; exact e2
    · obtain ⟨vs, tt, e, hs⟩ := hn
      exact ⟨vs, tt, by show (C.w.alloc _).heap[b]? = _; rw [hbelow.block b (hold k b q e1)]; exact e, hs⟩
    · show (C.vs ++ _)[k]? = _
      rw [List.getElem?_append_left (List.getElem?_eq_some_iff.1 e).1]; exact e
    · have hlt : b < C.w.heap.size := by
        rcases Nat.lt_or_ge b C.w.heap.size with h | h
        · exact h
        · unfold World.cell? at e3
          simp [Array.getElem?_eq_none h] at e3
      refine ⟨(hbelow.cell (p := ⟨b, off, none⟩) hlt).trans e3, ?_⟩
      rintro ⟨k, q, e⟩
      have e' : (C.ρ ++ [some (C.w.heap.size, 0)])[k]? = some (some (b, q)) := e
      rw [List.getElem?_append] at e'
      split at e'
      · exact e1 ⟨k, q, e'⟩
      · have := List.mem_of_getElem? e'
        simp at this
        omega
  refine ⟨⟨by simp [hr.len], by rw [show (Cx.mk (C.ρ ++ [some (C.w.heap.size, 0)]) (C.vs ++ [0]) C.X _).vs = C.vs ++ [0] from rfl, hr.vs]; simp, ?_, ?_, fun b hx => ⟨Nat.lt_of_lt_of_le (hr.X b hx).1 hbelow.size, fun ⟨k, q, e⟩ => ?_⟩, Nat.le_trans hr.size (by simp)⟩, hle⟩
  · intro k k' b q q' e1 e2
    have e1' : (C.ρ ++ [some (C.w.heap.size, 0)])[k]? = some (some (b, q)) := e1
    have e2' : (C.ρ ++ [some (C.w.heap.size, 0)])[k']? = some (some (b, q')) := e2
    rw [List.getElem?_append] at e1' e2'
    split at e1' <;> split at e2'
    · exact hr.inj k k' b q q' e1' e2'
    · have := hold _ _ _ e1'
      have := List.mem_of_getElem? e2'
      simp at this
      omega
    · have := hold _ _ _ e2'
      have := List.mem_of_getElem? e1'
      simp at this
      omega
    · have h1 := (List.getElem?_eq_some_iff.1 e1').1
      have h2 := (List.getElem?_eq_some_iff.1 e2').1
      simp at h1 h2
      omega
  · intro k b q r e1 e2
    have e1' : (C.ρ ++ [some (C.w.heap.size, 0)])[k]? = some (some (b, q)) := e1
    rw [List.getElem?_append] at e1' e2
    by_cases hk : k < C.ρ.length
    · rw [if_pos hk] at e1'
      rw [if_pos (by rw [← hr.len]; exact hk)] at e2
      obtain ⟨x1, vs, tt, x2, x3, x4⟩ := hr.row k b q r e1' e2
      refine ⟨x1, vs, tt, ?_, x3, fun i c hi => ?_⟩
      · show (C.w.alloc _).heap[b]? = _
        rw [hbelow.block b (hold k b q e1')]; exact x2
      · obtain ⟨u, y1, y2⟩ := x4 i c hi
        exact ⟨u, y1, y2.mono hle⟩
    · rw [if_neg hk] at e1'
      rw [if_neg (by rw [← hr.len]; exact hk)] at e2
      have m1 := List.mem_of_getElem? e1'
      have m2 := List.mem_of_getElem? e2
      simp at m1 m2
      obtain ⟨rfl, rfl⟩ := m1
      subst m2
      refine ⟨hr.size, us, ty, ?_, by simpa using Nat.le_of_eq hc.1, fun i c hi => ?_⟩
      · show (C.w.heap.push _)[C.w.heap.size]? = _
        simp
      · have hlt : i < us.size := by
          have := (List.getElem?_eq_some_iff.1 hi).1
          have := hc.1
          simp at *
          omega
        refine ⟨us[i], by simp [hlt], (hc.2 i c us[i] hi (by simp [hlt])).mono hle⟩
  · have e' : (C.ρ ++ [some (C.w.heap.size, 0)])[k]? = some (some (b, q)) := e
    rw [List.getElem?_append] at e'
    split at e'
    · exact (hr.X b hx).2 ⟨k, q, e'⟩
    · have := List.mem_of_getElem? e'
      simp at this
      have := (hr.X b hx).1
      omega

theorem box_done {ty : TypeId} {v : Value} {lv : LV} (hx : Conc C lv v) (hr : Rel C B h) (hat : lv.cells.all atomB = true)
    (hrun : (execOp a.eval o).run P C.w = .ok (.value (.pointer (some ⟨C.w.heap.size, 0, none⟩))) (C.w.alloc (.cells v.cells ty (0, 0)))) :
    Done P ((execOp a.eval o).run P C.w) (OpPost B lim C h false (.p h.length 0 0) (h ++ [⟨0, lv.cells⟩])) := by
  rw [hrun]
  obtain ⟨hc, _⟩ := hx.cells hat
  obtain ⟨h1, h2⟩ := Rel.push (ty := ty) hr hc
  have hbelow : Below C.w.heap.size C.w (C.w.alloc (.cells v.cells ty (0, 0))) := (Below.refl _ _).alloc (Nat.le_refl _) _
  refine ⟨_, rfl, ?_, h1, h2, ⟨fun b hb _ => hbelow.block b hb, fun k b q e1 e2 e3 => ?_, hbelow.size⟩, fun h => by simp at h⟩
  case refine_2 =>
    have e2' : (C.ρ ++ [some (C.w.heap.size, 0)])[k]? = some (some (b, q)) := e2
    rw [List.getElem?_append] at e2'
    split at e2'
    · exact ⟨k, q, e1, e2'⟩
    · have := List.mem_of_getElem? e2'
      simp at this
      omega
  have hvl : C.vs.length = h.length := by rw [hr.vs]; simp
  exact Conc.p (o := 0) (by show (C.ρ ++ _)[h.length]? = _; rw [← hr.len]; simp) (by show (C.vs ++ _)[h.length]? = _; rw [← hvl]; simp)

theorem sound_box {ty : TypeId} {x : Operand} {y : MO} (ho : o.op = .box ty x) (hx : Conc C (ev t y) (a.eval x)) (hr : Rel C B h)
    (he : evOp (.box y) t h lim = some (l, h')) : Done P ((execOp a.eval o).run P C.w) (OpPost B lim C h false l h') := by
  simp only [evOp] at he
  split at he
  · rename_i hat
    simp only [Option.some.injEq, Prod.mk.injEq] at he
    obtain ⟨rfl, rfl⟩ := he
    exact box_done (ty := ty) hx hr hat (by simp [execOp, ho, Instr.box, newVar, newRow])
  · simp at he

theorem zeroT_run {ty : TypeId} {z : LV} (hz : zeroT P ty = some z) (w : World) : ∃ v, (zeroValue ty).run P w = .ok v w ∧ z = liftV v := by
  unfold zeroT at hz
  cases hi : P.info? ty with
  | none => simp [hi] at hz
  | some i =>
    simp [hi] at hz
    obtain ⟨v, hv, rfl⟩ := hz
    exact ⟨v, by simp [zeroValue, typeInfo, hi, hv], rfl⟩

theorem liftV_conc (v : Value) : Conc C (liftV v) v := by
  cases v with
  | agg us =>
    exact Conc.agg (us := us.toList) (by simp) (fun i c u h1 h2 => by
      simp at h1 h2
      obtain ⟨x, hx, rfl⟩ := h1
      rw [hx] at h2
      simp at h2
      subst h2
      exact .v _)
  | _ => exact .v _

theorem sound_alloc {ty : TypeId} {z : LV} (ho : o.op = .alloc ty) (hz : zeroT P ty = some z) (hr : Rel C B h)
    (he : evOp (.box (.c z)) t h lim = some (l, h')) : Done P ((execOp a.eval o).run P C.w) (OpPost B lim C h false l h') := by
  simp only [evOp] at he
  split at he
  · rename_i hat
    simp only [Option.some.injEq, Prod.mk.injEq] at he
    obtain ⟨rfl, rfl⟩ := he
    obtain ⟨v, hv, rfl⟩ := zeroT_run hz C.w
    exact box_done (ty := ty) (liftV_conc v) hr hat (by simp [execOp, ho, Instr.alloc, newVar, newRow, hv])
  · simp at he

theorem pi_drop {cs : List LV} {b q : Nat} {us : Nat → Value} (n : Nat) (h1 : ∀ (i : Nat) e, cs[i]? = some e → ¬ C.own b ∧ ¬ C.X b ∧ C.w.cell? ⟨b, q + i, none⟩ = some (us i)) (h2 : ∀ (i : Nat) e, cs[i]? = some e → Conc C e (us i)) :
    Conc C (.pi (cs.drop n)) (.pointer (some ⟨b, q + n, none⟩)) :=
  Conc.pi (fun i => us (n + i)) (fun i e he => by
    rw [List.getElem?_drop] at he
    obtain ⟨x1, x2, x3⟩ := h1 _ _ he
    exact ⟨x1, x2, by rw [Nat.add_assoc]; exact x3⟩) (fun i e he => by rw [List.getElem?_drop] at he; exact h2 _ _ he)

theorem p_add {k ver off : Nat} (n : Nat) {u : Value} (hc : Conc C (.p k ver off) u) : ∃ ad : Addr, u = .pointer (some ad) ∧ ((∃ b q, ad = ⟨b, q, none⟩ ∧ Conc C (.p k ver (off + n)) (.pointer (some ⟨b, q + n, none⟩))) ∨ (∀ ad', Conc C (.p k ver (off + n)) (.pointer (some ad')))) := by
  cases hc with
  | p h1 h2 => exact ⟨_, rfl, .inl ⟨_, _, rfl, by rw [Nat.add_assoc]; exact .p h1 h2⟩⟩
  | pOld h1 h2 => exact ⟨_, rfl, .inr fun ad' => .pOld h1 h2⟩

theorem sound_fa {s : TypeId} {x : Operand} {y : MO} {i : Nat} {fs : Array Field} {f : Field} {n : Nat} (ho : o.op = .fieldAddr s x i) (hu : P.underlying s = some (.struct fs)) (hf : fs[i]? = some f) (hn : sizeT P f.type = some n) (hn0 : n ≠ 0)
    (hx : Conc C (ev t y) (a.eval x)) (hr : Rel C B h) (he : evOp (.fa y f.offset) t h lim = some (l, h')) : Done P ((execOp a.eval o).run P C.w) (OpPost B lim C h true l h') := by
  have hrun : ∀ ad : Addr, a.eval x = .pointer (some ad) → (execOp a.eval o).run P C.w = .ok (.value (.pointer (some (ad.add f.offset)))) C.w := by
    intro ad had
    simp [execOp, ho, Instr.fieldAt, run_underlying hu, hf, had, Instr.sureAddr, fieldPlace, run_sizeT hn, hn0]
  simp only [evOp] at he
  generalize hl : ev t y = lv at hx he
  cases lv with
  | p k ver off =>
    simp only [Option.some.injEq, Prod.mk.injEq] at he
    obtain ⟨rfl, rfl⟩ := he
    obtain ⟨ad, had, hh⟩ := p_add f.offset hx
    rcases hh with ⟨b, q, rfl, hc⟩ | hc
    · exact done_value hr hc (by rw [hrun _ had, addr_add])
    · exact done_value hr (hc _) (hrun _ had)
  | pi cs =>
    simp only [Option.some.injEq, Prod.mk.injEq] at he
    obtain ⟨rfl, rfl⟩ := he
    obtain ⟨b, q, us, had, h1, h2⟩ := hx.pi_inv
    exact done_value hr (pi_drop f.offset h1 h2) (by rw [hrun _ had, addr_add])
  | _ => simp at he

theorem run_part {ty : TypeId} {n : Option Nat} (hs : shapeT P ty = some n) (cs : List Value) (off : Nat) (hle : off + n.getD 1 ≤ cs.length) (w : World) :
    (part ty cs.toArray off).run P w = .ok (shaped n fun j => cs.getD (off + j) undef) w := by
  have agg : ∀ m, off + m ≤ cs.length → cs.toArray.extract off (off + m) = ((List.range m).map fun j => cs.getD (off + j) undef).toArray := by
    intro m hm
    apply Array.ext_getElem?
    intro i
    simp only [Array.getElem?_extract, List.getElem?_toArray, List.getElem?_map, List.size_toArray]
    by_cases hi : i < m
    · have h1 : off + i < cs.length := by omega
      simp [hi, h1]
      omega
    · simp [hi]
      omega
  unfold shapeT at hs
  cases hu : P.underlying ty with
  | none => simp [hu] at hs
  | some d =>
    have hun := run_underlying hu w
    cases d <;> simp only [hu] at hs
    case struct fs =>
      cases hz : sizeT P ty with
      | none => simp [hz] at hs
      | some m =>
        simp [hz] at hs
        subst hs
        simp only [Option.getD_some] at hle
        simp [part, isAgg, hun, run_sizeT hz, shaped]
        simpa using agg m hle
    case array k e =>
      cases hz : sizeT P ty with
      | none => simp [hz] at hs
      | some m =>
        simp [hz] at hs
        subst hs
        simp only [Option.getD_some] at hle
        simp [part, isAgg, hun, run_sizeT hz, shaped]
        simpa using agg m hle
    all_goals
      split at hs
      · simp at hs
        subst hs
        simp only [Option.getD_none] at hle
        have h1 : off < cs.length := by omega
        simp [part, isAgg, hun, shaped, h1]
      · simp at hs

theorem concL_get {cs : List LV} {us : List Value} (h : ConcL C cs us) : ∀ (i : Nat) e, cs[i]? = some e → Conc C e (us.getD i undef) := by
  intro i e hi
  have hlt : i < us.length := by rw [← h.1]; exact (List.getElem?_eq_some_iff.1 hi).1
  have : us.getD i undef = us[i] := by simp [hlt]
  rw [this]
  exact h.2 i e us[i] hi (by simp [hlt])

theorem sound_fld {s : TypeId} {x : Operand} {y : MO} {i : Nat} {fs : Array Field} {f : Field} {n : Option Nat} (ho : o.op = .field s x i) (hu : P.underlying s = some (.struct fs)) (hf : fs[i]? = some f) (hn : shapeT P f.type = some n)
    (hx : Conc C (ev t y) (a.eval x)) (hr : Rel C B h) (he : evOp (.fld y f.offset n) t h lim = some (l, h')) : Done P ((execOp a.eval o).run P C.w) (OpPost B lim C h true l h') := by
  simp only [evOp] at he
  generalize hl : ev t y = lv at hx he
  cases lv with
  | agg cs =>
    simp only [Option.map_eq_some_iff, Prod.mk.injEq] at he
    obtain ⟨z, hrd, rfl, rfl⟩ := he
    obtain ⟨us, hus, hc⟩ := hx.agg_inv
    obtain ⟨hle, hz⟩ := rdAt_conc (concL_get hc) hrd
    refine done_value hr hz ?_
    have := run_part hn us f.offset (by rw [← hc.1]; exact hle) C.w
    simp [execOp, ho, Instr.field, run_underlying hu, hf, hus, asAgg, this]
  | _ => simp at he

theorem sound_ixa {ty e : TypeId} {x i : Operand} {mx mi : MO} {len n : Nat} (ho : o.op = .indexAddr ty x i) (hu : P.underlying ty = some (.array len e)) (hn : sizeT P e = some n)
    (hx : Conc C (ev t mx) (a.eval x)) (hi : Conc C (ev t mi) (a.eval i)) (hr : Rel C B h) (he : evOp (.ixa mx mi len n) t h lim = some (l, h')) : Done P ((execOp a.eval o).run P C.w) (OpPost B lim C h true l h') := by
  have hrun : ∀ (ad : Addr) (k : IntKind) (j : Int), a.eval x = .pointer (some ad) → a.eval i = .int k j → 0 ≤ j → j < (len : Int) → (execOp a.eval o).run P C.w = .ok (.value (.pointer (some (ad.add (j.toNat * n))))) C.w := by
    intro ad k j had hj h0 h1
    simp [execOp, ho, Instr.indexAt, run_underlying hu, had, hj, asIntOf, Instr.sureAddr, run_sizeT hn, h0, h1]
  simp only [evOp] at he
  generalize hl : ev t mx = lv at hx he
  generalize hl' : ev t mi = li at hi he
  cases lv with
  | p k ver off =>
    cases li with
    | v z =>
      cases z with
      | int kk j =>
        simp only at he
        split at he
        · rename_i hj
          simp only [Option.some.injEq, Prod.mk.injEq] at he
          obtain ⟨rfl, rfl⟩ := he
          obtain ⟨ad, had, hh⟩ := p_add (j.toNat * n) hx
          rcases hh with ⟨b, q, rfl, hc⟩ | hc
          · exact done_value hr hc (by rw [hrun _ _ _ had hi.v_inv hj.1 hj.2, addr_add])
          · exact done_value hr (hc _) (hrun _ _ _ had hi.v_inv hj.1 hj.2)
        · simp at he
      | _ => simp at he
    | _ => simp at he
  | pi cs =>
    cases li with
    | v z =>
      cases z with
      | int kk j =>
        simp only at he
        split at he
        · rename_i hj
          simp only [Option.some.injEq, Prod.mk.injEq] at he
          obtain ⟨rfl, rfl⟩ := he
          obtain ⟨b, q, us, had, h1, h2⟩ := hx.pi_inv
          exact done_value hr (pi_drop (j.toNat * n) h1 h2) (by rw [hrun _ _ _ had hi.v_inv hj.1 hj.2, addr_add])
        · simp at he
      | _ => simp at he
    | _ => simp at he
  | _ => simp at he

theorem sound_ixs {ty e : TypeId} {x i : Operand} {mx mi : MO} {n : Nat} (ho : o.op = .indexAddr ty x i) (hu : P.underlying ty = some (.slice e)) (hn : sizeT P e = some n)
    (hx : Conc C (ev t mx) (a.eval x)) (hi : Conc C (ev t mi) (a.eval i)) (hr : Rel C B h) (he : evOp (.ixs mx mi n) t h lim = some (l, h')) : Done P ((execOp a.eval o).run P C.w) (OpPost B lim C h true l h') := by
  have hrun : ∀ (ad : Addr) (len c : Nat) (k : IntKind) (j : Int), a.eval x = .slice (some ad) len c → a.eval i = .int k j → 0 ≤ j → j < (len : Int) → (execOp a.eval o).run P C.w = .ok (.value (.pointer (some (ad.add (j.toNat * n))))) C.w := by
    intro ad len c k j had hj h0 h1
    simp [execOp, ho, Instr.indexAt, run_underlying hu, had, hj, asIntOf, run_sizeT hn, h0, h1]
  simp only [evOp] at he
  generalize hl : ev t mx = lv at hx he
  generalize hl' : ev t mi = li at hi he
  cases lv with
  | sl k ver off len esz =>
    cases li with
    | v z =>
      cases z with
      | int kk j =>
        simp only at he
        split at he
        · rename_i hj
          simp only [Option.some.injEq, Prod.mk.injEq] at he
          obtain ⟨rfl, rfl⟩ := he
          obtain ⟨rfl, h0, h1⟩ := hj
          cases hxx : a.eval x with
          | slice ao ln c =>
            rw [hxx] at hx
            cases hx with
            | sl e1 e2 e3 e4 => exact done_value hr (by rw [addr_add, Nat.add_assoc]; exact .p e1 e2) (hrun _ _ _ _ _ hxx hi.v_inv h0 h1)
            | slOld e1 e2 => exact done_value hr (.pOld e1 e2) (hrun _ _ _ _ _ hxx hi.v_inv h0 h1)
          | _ => rw [hxx] at hx; cases hx
        · simp at he
      | _ => simp at he
    | _ => simp at he
  | im cs len full =>
    cases li with
    | v z =>
      cases z with
      | int kk j =>
        simp only at he
        split at he
        · rename_i hj
          simp only [Option.some.injEq, Prod.mk.injEq] at he
          obtain ⟨rfl, rfl⟩ := he
          obtain ⟨b, q, c, us, had, _, _, h1, h2⟩ := hx.im_inv
          exact done_value hr (pi_drop (j.toNat * n) h1 h2) (by rw [hrun _ _ _ _ _ had hi.v_inv hj.1 hj.2, addr_add])
        · simp at he
      | _ => simp at he
    | _ => simp at he
  | _ => simp at he

theorem sound_ix {ty e : TypeId} {x i : Operand} {mx mi : MO} {len n : Nat} {m : Option Nat} (ho : o.op = .index ty x i) (hu : P.underlying ty = some (.array len e)) (hn : sizeT P e = some n) (hm : shapeT P e = some m)
    (hx : Conc C (ev t mx) (a.eval x)) (hi : Conc C (ev t mi) (a.eval i)) (hr : Rel C B h) (he : evOp (.ix mx mi len n m) t h lim = some (l, h')) : Done P ((execOp a.eval o).run P C.w) (OpPost B lim C h true l h') := by
  simp only [evOp] at he
  generalize hl : ev t mx = lv at hx he
  generalize hl' : ev t mi = li at hi he
  cases lv with
  | agg cs =>
    cases li with
    | v z =>
      cases z with
      | int kk j =>
        simp only at he
        split at he
        · rename_i hj
          simp only [Option.map_eq_some_iff, Prod.mk.injEq] at he
          obtain ⟨z, hrd, rfl, rfl⟩ := he
          obtain ⟨us, hus, hc⟩ := hx.agg_inv
          obtain ⟨hle, hz⟩ := rdAt_conc (concL_get hc) hrd
          refine done_value hr hz ?_
          have := run_part hm us (j.toNat * n) (by rw [← hc.1]; exact hle) C.w
          simp [execOp, ho, Instr.index, run_underlying hu, hus, hi.v_inv, asIntOf, hj.1, hj.2, run_sizeT hn, this]
        · simp at he
      | _ => simp at he
    | _ => simp at he
  | _ => simp at he
end
end Go.Proofs.Ytjgnjpbplnmdmaa
