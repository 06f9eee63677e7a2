/- What the evaluator's values stand for in memory, and that this outlasts what a call may do. -/
import Derived.Test.YtjgnjpbplnmdmaaEng1
import Derived.Laws.Rows
import Derived.Laws.CopyRow
import Derived.Laws.Tables
namespace Go.Proofs.Ytjgnjpbplnmdmaa
open Go Go.RowKit

/-- Where the rows lie, in which version they are, which blocks besides are not to be leant on, and the world. -/
structure Cx where
  ρ : List (Option (Nat × Nat))
  vs : List Nat
  X : Nat → Prop
  w : World

def Cx.own (C : Cx) (b : Nat) : Prop := ∃ (k o : Nat), C.ρ[k]? = some (some (b, o))

/-- A block of cells of the call's own, with room for n. -/
def room (w : World) (b n : Nat) : Prop := ∃ us t, w.heap[b]? = some (.cells us t (0, 0)) ∧ n ≤ us.size

inductive Conc (C : Cx) : LV → Value → Prop where
  | v (x : Value) : Conc C (.v x) x
  | p {k ver off b o : Nat} : C.ρ[k]? = some (some (b, o)) → C.vs[k]? = some ver → Conc C (.p k ver off) (.pointer (some ⟨b, o + off, none⟩))
  | pOld {k ver off cur : Nat} {a : Addr} : C.vs[k]? = some cur → ver < cur → Conc C (.p k ver off) (.pointer (some a))
  | f {fn : FuncId} {cap : List LV} {us : List Value} : cap.length = us.length → (∀ (i : Nat) c u, cap[i]? = some c → us[i]? = some u → Conc C c u) → Conc C (.f fn cap) (.func (.func fn) #[] us.toArray)
  | sl {k ver off len esz cap b o c : Nat} : C.ρ[k]? = some (some (b, o)) → C.vs[k]? = some ver → (len ≤ cap ∧ cap ≤ c) → room C.w b (o + off + c * esz) → Conc C (.sl k ver off len esz cap) (.slice (some ⟨b, o + off, none⟩) len c)
  | slOld {k ver off len esz cap cur c : Nat} {a : Addr} : C.vs[k]? = some cur → ver < cur → Conc C (.sl k ver off len esz cap) (.slice (some a) len c)
  | im {cells : List LV} {len c b o : Nat} {full : Bool} (us : Nat → Value) : len ≤ c → (full = true → c = len) → (∀ (i : Nat) e, cells[i]? = some e → ¬ C.own b ∧ ¬ C.X b ∧ C.w.cell? ⟨b, o + i, none⟩ = some (us i)) →
      (∀ (i : Nat) e, cells[i]? = some e → Conc C e (us i)) → Conc C (.im cells len full) (.slice (some ⟨b, o, none⟩) len c)
  | pi {cells : List LV} {b o : Nat} (us : Nat → Value) : (∀ (i : Nat) e, cells[i]? = some e → ¬ C.own b ∧ ¬ C.X b ∧ C.w.cell? ⟨b, o + i, none⟩ = some (us i)) →
      (∀ (i : Nat) e, cells[i]? = some e → Conc C e (us i)) → Conc C (.pi cells) (.pointer (some ⟨b, o, none⟩))
  | agg {cs : List LV} {us : List Value} : cs.length = us.length → (∀ (i : Nat) c u, cs[i]? = some c → us[i]? = some u → Conc C c u) → Conc C (.agg cs) (.agg us.toArray)
  | tup {cs : List LV} {us : List Value} : cs.length = us.length → (∀ (i : Nat) c u, cs[i]? = some c → us[i]? = some u → Conc C c u) → Conc C (.tup cs) (.tuple us.toArray)
  | ifc {t : TypeId} {x : LV} {u : Value} : Conc C x u → Conc C (.ifc t x) (.iface t u)
  | bad (u : Value) : Conc C .bad u

/-- Many values. -/
def ConcL (C : Cx) (cs : List LV) (us : List Value) : Prop := cs.length = us.length ∧ ∀ (i : Nat) c u, cs[i]? = some c → us[i]? = some u → Conc C c u

/-- C' is behind C: what stood for a value still does. -/
structure Le (B : Nat) (C C' : Cx) : Prop where
  X : C'.X = C.X
  cur : ∀ (k ver b o : Nat), C.ρ[k]? = some (some (b, o)) → C.vs[k]? = some ver → (C'.ρ[k]? = some (some (b, o)) ∧ C'.vs[k]? = some ver ∧ ∀ n, room C.w b n → room C'.w b n) ∨ (∃ cur, C'.vs[k]? = some cur ∧ ver < cur)
  old : ∀ (k cur : Nat), C.vs[k]? = some cur → ∃ cur', C'.vs[k]? = some cur' ∧ cur ≤ cur'
  cell : ∀ (b off : Nat) u, ¬ C.own b → ¬ C.X b → C.w.cell? ⟨b, off, none⟩ = some u → C'.w.cell? ⟨b, off, none⟩ = some u ∧ ¬ C'.own b
  below : Below B C.w C'.w
  hole : ∀ (k : Nat), C.ρ[k]? = some none → C'.ρ[k]? = some none

theorem Le.refl (B : Nat) (C : Cx) : Le B C C :=
  ⟨rfl, fun _ _ _ _ h1 h2 => .inl ⟨h1, h2, fun _ h => h⟩, fun _ cur h => ⟨cur, h, Nat.le_refl _⟩, fun _ _ _ h1 _ h3 => ⟨h3, h1⟩, Below.refl _ _, fun _ h => h⟩

theorem Le.trans {B : Nat} {C C' C'' : Cx} (h : Le B C C') (k : Le B C' C'') : Le B C C'' := by
  refine ⟨k.X.trans h.X, ?_, ?_, ?_, h.below.trans k.below, fun i hi => k.hole i (h.hole i hi)⟩
  · intro i ver b o h1 h2
    rcases h.cur i ver b o h1 h2 with ⟨a1, a2, a3⟩ | ⟨cur, a1, a2⟩
    · rcases k.cur i ver b o a1 a2 with ⟨b1, b2, b3⟩ | ⟨cur, b1, b2⟩
      · exact .inl ⟨b1, b2, fun n hn => b3 n (a3 n hn)⟩
      · exact .inr ⟨cur, b1, b2⟩
    · obtain ⟨cur', b1, b2⟩ := k.old i cur a1
      exact .inr ⟨cur', b1, by omega⟩
  · intro i cur h1
    obtain ⟨c1, a1, a2⟩ := h.old i cur h1
    obtain ⟨c2, b1, b2⟩ := k.old i c1 a1
    exact ⟨c2, b1, by omega⟩
  · intro b off u h1 h2 h3
    obtain ⟨a1, a2⟩ := h.cell b off u h1 h2 h3
    exact k.cell b off u a2 (by rw [h.X]; exact h2) a1

/-- What stood for a value still does, whatever else has turned. -/
structure Mo (C C' : Cx) : Prop where
  cur : ∀ (k ver b o : Nat), C.ρ[k]? = some (some (b, o)) → C.vs[k]? = some ver → (C'.ρ[k]? = some (some (b, o)) ∧ C'.vs[k]? = some ver ∧ ∀ n, room C.w b n → room C'.w b n) ∨ (∃ cur, C'.vs[k]? = some cur ∧ ver < cur)
  old : ∀ (k cur : Nat), C.vs[k]? = some cur → ∃ cur', C'.vs[k]? = some cur' ∧ cur ≤ cur'
  cell : ∀ (b off : Nat) u, ¬ C.own b → ¬ C.X b → C.w.cell? ⟨b, off, none⟩ = some u → C'.w.cell? ⟨b, off, none⟩ = some u ∧ ¬ C'.own b ∧ ¬ C'.X b

theorem Le.mo {B : Nat} {C C' : Cx} (h : Le B C C') : Mo C C' := ⟨h.cur, h.old, fun b off u h1 h2 h3 => ⟨(h.cell b off u h1 h2 h3).1, (h.cell b off u h1 h2 h3).2, by rw [h.X]; exact h2⟩⟩

theorem Conc.mo {C C' : Cx} (h : Mo C C') {l : LV} {u : Value} (hc : Conc C l u) : Conc C' l u := by
  induction hc with
  | v x => exact .v x
  | p h1 h2 =>
    rcases h.cur _ _ _ _ h1 h2 with ⟨a1, a2, _⟩ | ⟨cur, a1, a2⟩
    · exact .p a1 a2
    · exact .pOld a1 a2
  | pOld h1 h2 => obtain ⟨c, a1, a2⟩ := h.old _ _ h1; exact .pOld a1 (by omega)
  | f h1 _ ih => exact .f h1 ih
  | sl h1 h2 h3 h4 =>
    rcases h.cur _ _ _ _ h1 h2 with ⟨a1, a2, a3⟩ | ⟨cur, a1, a2⟩
    · exact .sl a1 a2 h3 (a3 _ h4)
    · exact .slOld a1 a2
  | slOld h1 h2 => obtain ⟨c, a1, a2⟩ := h.old _ _ h1; exact .slOld a1 (by omega)
  | im us h1 h2 h3 _ ih =>
    refine .im us h1 h2 (fun i e he => ?_) ih
    obtain ⟨a1, a2, a3⟩ := h3 i e he
    obtain ⟨b1, b2, b3⟩ := h.cell _ _ _ a1 a2 a3
    exact ⟨b2, b3, b1⟩
  | pi us h3 _ ih =>
    refine .pi us (fun i e he => ?_) ih
    obtain ⟨a1, a2, a3⟩ := h3 i e he
    obtain ⟨b1, b2, b3⟩ := h.cell _ _ _ a1 a2 a3
    exact ⟨b2, b3, b1⟩
  | agg h1 _ ih => exact .agg h1 ih
  | tup h1 _ ih => exact .tup h1 ih
  | ifc _ ih => exact .ifc ih
  | bad u => exact .bad u

theorem Conc.mono {B : Nat} {C C' : Cx} (h : Le B C C') {l : LV} {u : Value} (hc : Conc C l u) : Conc C' l u := hc.mo h.mo

theorem ConcL.mono {B : Nat} {C C' : Cx} (h : Le B C C') {cs : List LV} {us : List Value} (hc : ConcL C cs us) : ConcL C' cs us := ⟨hc.1, fun i c u h1 h2 => (hc.2 i c u h1 h2).mono h⟩

/-- The rows as they lie. -/
structure Rel (C : Cx) (B : Nat) (h : List Row) : Prop where
  len : C.ρ.length = h.length
  vs : C.vs = h.map Row.ver
  inj : ∀ (k k' b o o' : Nat), C.ρ[k]? = some (some (b, o)) → C.ρ[k']? = some (some (b, o')) → k = k'
  row : ∀ (k b o : Nat) r, C.ρ[k]? = some (some (b, o)) → h[k]? = some r → B ≤ b ∧ ∃ us t, C.w.heap[b]? = some (.cells us t (0, 0)) ∧ o + r.cells.length ≤ us.size ∧ ∀ (i : Nat) c, r.cells[i]? = some c → ∃ u, us[o + i]? = some u ∧ Conc C c u
  X : ∀ b, C.X b → b < C.w.heap.size ∧ ¬ C.own b
  size : B ≤ C.w.heap.size

/-- A world that has grown: nothing that was there has turned. -/
theorem Le.grow {B : Nat} {C : Cx} {w' : World} (hB : B ≤ C.w.heap.size) (hb : Below C.w.heap.size C.w w') : Le B C { C with w := w' } := by
  refine ⟨rfl, fun k ver b o h1 h2 => .inl ⟨h1, h2, fun n hn => ?_⟩, fun _ cur h => ⟨cur, h, Nat.le_refl _⟩, fun b off u h1 h2 h3 => ⟨?_, h1⟩, hb.mono hB, fun _ h => h⟩
  · obtain ⟨us, t, e, hs⟩ := hn
    have hlt : b < C.w.heap.size := (Array.getElem?_eq_some_iff.1 e).1
    exact ⟨us, t, by rw [hb.block b hlt]; exact e, hs⟩
  · have hlt : b < C.w.heap.size := by
      rcases Nat.lt_or_ge b C.w.heap.size with h | h
      · exact h
      · unfold World.cell? at h3
        simp [Array.getElem?_eq_none h] at h3
    exact (hb.cell (p := ⟨b, off, none⟩) hlt).trans h3

theorem Rel.grow {B : Nat} {C : Cx} {h : List Row} {w' : World} (hr : Rel C B h) (hb : Below C.w.heap.size C.w w') : Rel { C with w := w' } B h := by
  have hle := Le.grow hr.size hb
  refine ⟨hr.len, hr.vs, hr.inj, ?_, fun b hx => ⟨Nat.lt_of_lt_of_le (hr.X b hx).1 hb.size, (hr.X b hx).2⟩, Nat.le_trans hr.size hb.size⟩
  intro k b o r h1 h2
  obtain ⟨a1, us, t, e, hs, hc⟩ := hr.row k b o r h1 h2
  have hlt : b < C.w.heap.size := (Array.getElem?_eq_some_iff.1 e).1
  refine ⟨a1, us, t, ?_, hs, fun i c hi => ?_⟩
  · show w'.heap[b]? = _
    rw [hb.block b hlt]; exact e
  · obtain ⟨u, x1, x2⟩ := hc i c hi
    exact ⟨u, x1, x2.mono hle⟩

/-- Of what was there, blocks of rows from lim on alone may have turned; what is a row's now and was there, was one's then. -/
structure Fr (lim : Nat) (C C' : Cx) : Prop where
  same : ∀ b, b < C.w.heap.size → (∀ (k o : Nat), lim ≤ k → C.ρ[k]? ≠ some (some (b, o))) → C'.w.heap[b]? = C.w.heap[b]?
  old : ∀ (k b o : Nat), lim ≤ k → C'.ρ[k]? = some (some (b, o)) → b < C.w.heap.size → ∃ k' o', lim ≤ k' ∧ C.ρ[k']? = some (some (b, o'))
  size : C.w.heap.size ≤ C'.w.heap.size

theorem Fr.refl (lim : Nat) (C : Cx) : Fr lim C C := ⟨fun _ _ _ => rfl, fun k _ o h1 h2 _ => ⟨k, o, h1, h2⟩, Nat.le_refl _⟩

theorem Fr.trans {lim : Nat} {C C' C'' : Cx} (h : Fr lim C C') (k : Fr lim C' C'') : Fr lim C C'' := by
  refine ⟨fun b hb hno => ?_, fun i b o h1 h2 h3 => ?_, Nat.le_trans h.size k.size⟩
  · rw [k.same b (Nat.lt_of_lt_of_le hb h.size) fun i o hi he => ?_, h.same b hb hno]
    obtain ⟨k', o', e1, e2⟩ := h.old i b o hi he hb
    exact hno k' o' e1 e2
  · obtain ⟨k', o', e1, e2⟩ := k.old i b o h1 h2 (Nat.lt_of_lt_of_le h3 h.size)
    exact h.old k' b o' e1 e2 h3

theorem Fr.grow {lim : Nat} {C C' : Cx} (hρ : C'.ρ = C.ρ) (hb : Below C.w.heap.size C.w C'.w) : Fr lim C C' :=
  ⟨fun b h _ => hb.block b h, fun k b o h1 h2 _ => ⟨k, o, h1, by rw [← hρ]; exact h2⟩, hb.size⟩

/-- Where no row may have turned, nothing that was there has. -/
theorem Fr.below {lim B : Nat} {C C' : Cx} (h : Fr lim C C') (hb : Below B C.w C'.w) (hl : C.ρ.length ≤ lim) : Below C.w.heap.size C.w C'.w :=
  ⟨hb.os, hb.tape, hb.output, hb.size, fun b hlt => h.same b hlt fun k o hk he => by
    have := (List.getElem?_eq_some_iff.1 he).1
    omega⟩

/-- What the temporaries hold. -/
def TmpR (C : Cx) (t : List LV) (a : Act) : Prop := t.length = a.tmps.size ∧ ∀ (i : Nat), Conc C (getT t i) (a.tmps.getD i undef)

theorem TmpR.mono {B : Nat} {C C' : Cx} (h : Le B C C') {t : List LV} {a : Act} (ht : TmpR C t a) : TmpR C' t a := ⟨ht.1, fun i => (ht.2 i).mono h⟩

theorem getT_set (t : List LV) : ∀ (d i : Nat) (y : LV), getT (setT t d y) i = if d = i ∧ d < t.length then y else getT t i := by
  induction t with
  | nil => intro d i y; cases d <;> simp [setT, getT]
  | cons x t ih =>
    intro d i y
    cases d with
    | zero => cases i <;> simp [setT, getT]
    | succ d =>
      cases i with
      | zero => simp [setT, getT]
      | succ i => simp [setT, getT, ih]

theorem setT_length (t : List LV) : ∀ (d : Nat) (y : LV), (setT t d y).length = t.length := by
  induction t with
  | nil => intro d y; cases d <;> rfl
  | cons x t ih => intro d y; cases d <;> simp [setT, ih]

theorem TmpR.put {C : Cx} {t : List LV} {a : Act} (ht : TmpR C t a) (d : Option Nat) {y : LV} {u : Value} (hy : Conc C y u) : TmpR C (putD d t y) (a.put d u) := by
  cases d with
  | none => exact ht
  | some d =>
    refine ⟨by simp only [putD]; rw [setT_length]; simpa [Act.put] using ht.1, fun i => ?_⟩
    simp only [putD, getT_set, Act.put]
    by_cases h : d = i
    · subst h
      by_cases hl : d < t.length
      · rw [if_pos ⟨rfl, hl⟩]
        have : d < a.tmps.size := by rw [← ht.1]; exact hl
        simp [this]
        exact hy
      · rw [if_neg (fun h => hl h.2)]
        have : ¬ d < a.tmps.size := by rw [← ht.1]; exact hl
        have := ht.2 d
        simp_all
    · rw [if_neg (fun hh => h hh.1)]
      have e : (a.tmps.setIfInBounds d u).getD i undef = a.tmps.getD i undef := by simp [Array.getElem?_setIfInBounds_ne h]
      rw [e]
      exact ht.2 i

theorem cO_ev {C : Cx} {t : List LV} {a : Act} (x : Operand) (y : MO) (hx : cO x = some y) (ht : ∀ i, x = .tmp i → Conc C (getT t i) (a.tmps.getD i undef)) : Conc C (ev t y) (a.eval x) := by
  cases x with
  | tmp i => simp [cO] at hx; subst hx; exact ht i rfl
  | const v =>
    cases v <;> simp [cO] at hx <;> subst hx <;> exact .v _
  | func g => simp [cO] at hx; subst hx; exact Conc.f (us := []) rfl (fun i c u h => by simp at h)
  | global g => simp [cO] at hx

/-! ### the shapes of values -/

theorem Conc.agg_inv {C : Cx} {cs : List LV} {u : Value} (h : Conc C (.agg cs) u) : ∃ us : List Value, u = .agg us.toArray ∧ ConcL C cs us := by
  cases h with | agg h1 h2 => exact ⟨_, rfl, h1, h2⟩
theorem Conc.tup_inv {C : Cx} {cs : List LV} {u : Value} (h : Conc C (.tup cs) u) : ∃ us : List Value, u = .tuple us.toArray ∧ ConcL C cs us := by
  cases h with | tup h1 h2 => exact ⟨_, rfl, h1, h2⟩
theorem Conc.v_inv {C : Cx} {x u : Value} (h : Conc C (.v x) u) : u = x := by cases h; rfl

theorem Conc.pi_inv {C : Cx} {cells : List LV} {u : Value} (h : Conc C (.pi cells) u) : ∃ (b o : Nat) (us : Nat → Value), u = .pointer (some ⟨b, o, none⟩) ∧
    (∀ (i : Nat) e, cells[i]? = some e → ¬ C.own b ∧ ¬ C.X b ∧ C.w.cell? ⟨b, o + i, none⟩ = some (us i)) ∧ (∀ (i : Nat) e, cells[i]? = some e → Conc C e (us i)) := by
  cases h with | pi us h1 h2 => exact ⟨_, _, us, rfl, h1, h2⟩
theorem Conc.im_inv {C : Cx} {cells : List LV} {len : Nat} {full : Bool} {u : Value} (h : Conc C (.im cells len full) u) : ∃ (b o c : Nat) (us : Nat → Value), u = .slice (some ⟨b, o, none⟩) len c ∧ len ≤ c ∧ (full = true → c = len) ∧
    (∀ (i : Nat) e, cells[i]? = some e → ¬ C.own b ∧ ¬ C.X b ∧ C.w.cell? ⟨b, o + i, none⟩ = some (us i)) ∧ (∀ (i : Nat) e, cells[i]? = some e → Conc C e (us i)) := by
  cases h with | im us h1 h2 h3 h4 => exact ⟨_, _, _, us, rfl, h1, h2, h3, h4⟩

theorem atom_one {C : Cx} {l : LV} {u : Value} (h : Conc C l u) (ha : atomB l = true) : u.oneCell' = true := by
  cases h <;> first | rfl | exact ha | (simp [atomB] at ha)

/-- The cells of a value. -/
theorem Conc.cells {C : Cx} {l : LV} {u : Value} (h : Conc C l u) (ha : l.cells.all atomB = true) : ConcL C l.cells u.cells.toList ∧ ∀ v ∈ u.cells.toList, v.oneCell' = true := by
  by_cases hl : ∃ cs, l = .agg cs
  · obtain ⟨cs, rfl⟩ := hl
    obtain ⟨us, rfl, h1, h2⟩ := h.agg_inv
    refine ⟨⟨by simpa [LV.cells, Value.cells] using h1, fun i c u h3 h4 => h2 i c u h3 (by simpa [Value.cells] using h4)⟩, fun v hv => ?_⟩
    have hv' : v ∈ us := by simpa [Value.cells] using hv
    obtain ⟨i, hi, e⟩ := List.getElem_of_mem hv'
    have hc : cs[i]? = some cs[i] := by simp [show i < cs.length by omega]
    exact atom_one (h2 i cs[i] v hc (by rw [List.getElem?_eq_getElem hi, e])) (List.all_eq_true.1 ha _ (List.getElem_mem _))
  · have e1 : l.cells = [l] := by cases l <;> first | rfl | exact (hl ⟨_, rfl⟩).elim
    rw [e1] at ha ⊢
    have ha' : atomB l = true := by simpa using ha
    have h1 := atom_one h ha'
    have e2 : u.cells = #[u] := by cases u <;> first | rfl | simp [Value.oneCell'] at h1
    rw [e2]
    refine ⟨⟨rfl, fun i c x h3 h4 => ?_⟩, by simpa using h1⟩
    cases i with
    | zero => simp at h3 h4; subst h3; subst h4; exact h
    | succ i => simp at h3

/-- A value of one cell, or of so many. -/
def shaped (n : Option Nat) (us : Nat → Value) : Value :=
  match n with
  | none => us 0
  | some n => .agg ((List.range n).map us).toArray

theorem rdAt_conc {C : Cx} {cs : List LV} {us : Nat → Value} (hc : ∀ (i : Nat) e, cs[i]? = some e → Conc C e (us i)) {off : Nat} {n : Option Nat} {x : LV} (hx : rdAt cs off n = some x) :
    off + n.getD 1 ≤ cs.length ∧ Conc C x (shaped n fun j => us (off + j)) := by
  cases n with
  | none =>
    simp only [rdAt] at hx
    obtain ⟨hl, _⟩ := List.getElem?_eq_some_iff.1 hx
    exact ⟨hl, hc _ _ hx⟩
  | some n =>
    simp only [rdAt] at hx
    split at hx
    · rename_i hle
      simp at hx
      subst hx
      refine ⟨hle, .agg (by simp; omega) fun i c u h1 h2 => ?_⟩
      have hi : i < n := by
        have := (List.getElem?_eq_some_iff.1 h2).1
        simpa using this
      rw [List.getElem?_take, if_pos hi, List.getElem?_drop] at h1
      simp [hi] at h2
      subst h2
      exact hc _ _ h1
    · simp at hx

theorem putR_length (cs : List LV) (off : Nat) (xs : List LV) (h : off + xs.length ≤ cs.length) : (putR cs off xs).length = cs.length := by
  unfold putR; simp; omega

theorem seg_get {α : Type} (cs : List α) (off : Nat) (xs : List α) (h : off + xs.length ≤ cs.length) (i : Nat) :
    (cs.take off ++ xs ++ cs.drop (off + xs.length))[i]? = if off ≤ i ∧ i < off + xs.length then xs[i - off]? else cs[i]? := by
  rw [List.append_assoc, List.getElem?_append]
  simp only [List.length_take, List.getElem?_take]
  by_cases h1 : i < off
  · rw [if_pos (by omega), if_pos h1, if_neg (by omega)]
  · rw [if_neg (by omega), List.getElem?_append]
    by_cases h2 : i < off + xs.length
    · rw [if_pos (by omega), if_pos ⟨by omega, h2⟩]
      congr 1; omega
    · rw [if_neg (by omega), if_neg (by omega), List.getElem?_drop]
      congr 1; omega

theorem addr_add (b o n : Nat) : (⟨b, o, none⟩ : Addr).add n = ⟨b, o + n, none⟩ := by
  unfold Addr.add; split <;> simp_all

end Go.Proofs.Ytjgnjpbplnmdmaa
