/- A region that draws its order: one walk in the order of the text serves every order. -/
import Derived.Test.YtjgnjpbplnmdmaaEng8
namespace Go.Proofs.Ytjgnjpbplnmdmaa
open Go Go.RowKit

theorem waitsB_spec {o : Oper} {j : Nat} (h : waitsB o j = true) : ∃ e ∈ o.after, Region.binds .any e = true ∧ e.on = j := by
  unfold waitsB at h
  obtain ⟨e, he, hb⟩ := Array.any_eq_true'.1 h
  simp only [Bool.and_eq_true, beq_iff_eq] at hb
  exact ⟨e, he, hb.1, hb.2⟩

structure Flow (ops : Array Oper) (n : Nat) : Prop where
  early : ∀ (i : Nat) (o : Oper), ops[i]? = some o → ∀ e ∈ o.after, Region.binds .any e = true → e.on < i
  sel : ∀ (i : Nat) (o : Oper), ops[i]? = some o → ∀ cs b, o.op ≠ .select cs b
  tail : ∀ (i : Nat) (o : Oper), ops[i]? = some o → n < i → ∃ e ∈ o.after, Region.binds .any e = true ∧ e.on = i - 1
  join : ∀ (o : Oper), ops[n]? = some o → ∀ S : Nat → Prop, (∀ (j : Nat) (x : Oper), j < n → ops[j]? = some x → S j → ∀ e ∈ x.after, Region.binds .any e = true → S e.on) → (∀ e ∈ o.after, Region.binds .any e = true → S e.on) → ∀ j, j < n → S j
  flow : ∀ (i j : Nat) (x y : Oper) (t : Tmp), i < n → j < n → ops[i]? = some x → ops[j]? = some y → y.dst = some t → t ∈ x.looksAt ops →
    i = j ∨ (j < i ∧ ∃ e ∈ x.after, Region.binds .any e = true ∧ e.on = j) ∨ (i < j ∧ ∃ e ∈ y.after, Region.binds .any e = true ∧ e.on = i)
  uniq : ∀ (i j : Nat) (x y : Oper) (t : Tmp), i < n → j < n → ops[i]? = some x → ops[j]? = some y → x.dst = some t → y.dst = some t → i = j

theorem afters_spec {o : Oper} {j : Nat} (h : j ∈ afters o) : ∃ e ∈ o.after, Region.binds .any e = true ∧ e.on = j := by
  unfold afters at h
  obtain ⟨e, he, rfl⟩ := List.mem_map.1 h
  obtain ⟨h1, h2⟩ := List.mem_filter.1 he
  exact ⟨e, by simpa using h1, h2, rfl⟩

theorem reach_spec {ops : Array Oper} {S : Nat → Prop} : ∀ (L : List Nat) (init : List Nat), (∀ j ∈ L, ∀ x, ops[j]? = some x → S j → ∀ e ∈ x.after, Region.binds .any e = true → S e.on) → (∀ j ∈ init, S j) →
    ∀ j ∈ L.foldr (reachStep ops) init, S j
  | [], init, _, h, j, hj => h j hj
  | i :: L, init, hc, h, j, hj => by
    have ih := reach_spec L init (fun j hj => hc j (by simp [hj])) h
    simp only [List.foldr_cons, reachStep] at hj
    split at hj
    · rename_i hi
      split at hj
      · rename_i o ho
        rcases List.mem_append.1 hj with hj | hj
        · obtain ⟨e, h1, h2, rfl⟩ := afters_spec hj
          exact hc i (by simp) o ho (ih i (by simpa using hi)) e h1 h2
        · exact ih j hj
      · exact ih j hj
    · exact ih j hj

theorem flow_of {ops : Array Oper} {n : Nat} (h : flowB ops n = true) : Flow ops n := by
  unfold flowB at h
  rw [Bool.and_eq_true, List.all_eq_true, List.all_eq_true] at h
  obtain ⟨h1, h2⟩ := h
  have lt : ∀ (i : Nat) (o : Oper), ops[i]? = some o → i ∈ List.range ops.size := fun i o ho => List.mem_range.2 (Array.getElem?_eq_some_iff.1 ho).1
  refine ⟨?_, ?_, ?_, ?_, ?_, ?_⟩
  · intro i o ho e he hb
    have := h1 i (lt i o ho)
    simp only [ho, Bool.and_eq_true, Array.all_eq_true_iff_forall_mem, Bool.or_eq_true, decide_eq_true_eq] at this
    rcases this.1.1.1 e he with h | h
    · simp [hb] at h
    · exact h
  · intro i o ho cs b hs
    have := h1 i (lt i o ho)
    simp [ho, hs] at this
  · intro i o ho hn
    have := h1 i (lt i o ho)
    simp only [ho, Bool.and_eq_true, Bool.or_eq_true, decide_eq_true_eq, List.all_eq_true] at this
    rcases this.1.2 with h | h
    · omega
    · exact waitsB_spec h
  · intro o ho S hS hO j hj
    have := h1 n (lt n o ho)
    simp only [ho, Bool.and_eq_true, Bool.or_eq_true, decide_eq_true_eq, List.all_eq_true] at this
    rcases this.2 with h | h
    · exact absurd rfl h
    · have hm := h j (List.mem_range.2 hj)
      unfold reach at hm
      simp only [ho] at hm
      refine reach_spec (S := S) (List.range n) (afters o) (fun k hk x hx => hS k x (List.mem_range.1 hk) hx) (fun k hk => ?_) j (by simpa using hm)
      obtain ⟨e, a1, a2, rfl⟩ := afters_spec hk
      exact hO e a1 a2
  · intro i j x y t hi hj hx hy ht hl
    have := h2 i (List.mem_range.2 hi)
    rw [List.all_eq_true] at this
    have := this j (List.mem_range.2 hj)
    simp only [hx, hy, ht, Bool.and_eq_true, Bool.or_eq_true, decide_eq_true_eq] at this
    rcases this.1 with ((h | h) | h) | h
    · simp [hl] at h
    · exact .inl h
    · exact .inr (.inl ⟨h.1, waitsB_spec h.2⟩)
    · exact .inr (.inr ⟨h.1, waitsB_spec h.2⟩)
  · intro i j x y t hi hj hx hy hxt hyt
    have := h2 i (List.mem_range.2 hi)
    rw [List.all_eq_true] at this
    have := this j (List.mem_range.2 hj)
    simp only [hx, hy, hyt, Bool.and_eq_true, Bool.or_eq_true, decide_eq_true_eq] at this
    rcases this.2 with h | h
    · exact h
    · simp [hxt] at h

theorem getD_ft {listed : Array Bool} {i : Nat} (hi : i < listed.size) : listed.getD i false = listed.getD i true := by simp [hi]

section
variable {P : Program} {cal : Callee} {l : List Oper} {Q : Exit → Act → World → Prop} {lim B : Nat} {h : List Row}

/-- Behind the first n: the others, one behind the other. -/
theorem tail_any {n : Nat} (hf : Flow l.toArray n) : ∀ (d k : Nat) (listed : Array Bool) (a : Act) (w : World), n ≤ k → k ≤ l.length → l.length - k = d → listed.size = l.length →
    (∀ j, j < k → listed.getD j false = true) → (∀ j, k ≤ j → j < l.length → listed.getD j true = false) → wpList P l.toArray Q (l.drop k) a w → wpAny P .any l.toArray Q d listed a w := by
  intro d
  induction d with
  | zero =>
    intro k listed a w hn hk hd hs h1 h2 h
    have hkl : k = l.length := by omega
    subst hkl
    rw [List.drop_length] at h
    refine ⟨?_, h⟩
    refine List.eq_nil_iff_forall_not_mem.2 fun j hj => ?_
    obtain ⟨hu, o, ho, _⟩ := mem_ready.1 hj
    have hlt : j < l.length := by simpa using (Array.getElem?_eq_some_iff.1 ho).1
    have := h1 j hlt
    rw [getD_ft (by omega), hu] at this
    cases this
  | succ d ih =>
    intro k listed a w hn hk hd hs h1 h2 h
    have hkl : k < l.length := by omega
    have hok : l.toArray[k]? = some l[k] := by simp [hkl]
    have hr : ∀ j, j ∈ Region.ready .any l.toArray listed → j = k := by
      intro j hj
      obtain ⟨hu, o, ho, hall⟩ := mem_ready.1 hj
      have hlt : j < l.length := by simpa using (Array.getElem?_eq_some_iff.1 ho).1
      rcases Nat.lt_trichotomy j k with hjk | hjk | hjk
      · have := h1 j hjk
        rw [getD_ft (by omega), hu] at this
        cases this
      · exact hjk
      · obtain ⟨e, he, hb, hon⟩ := hf.tail j o ho (by omega)
        have := hall e he hb
        rw [hon, getD_ft (by omega), h2 (j - 1) (by omega) (by omega)] at this
        cases this
    have hkr : k ∈ Region.ready .any l.toArray listed := mem_ready.2 ⟨h2 k (Nat.le_refl _) hkl, _, hok, fun e he hb => h1 _ (hf.early k _ hok e he hb)⟩
    refine ⟨fun h0 => (by rw [h0] at hkr; cases hkr), fun i hi => ?_⟩
    obtain rfl := hr i hi
    have hdrop : l.drop i = l[i] :: l.drop (i + 1) := List.drop_eq_getElem_cons hkl
    rw [hdrop] at h
    have hw : wpOp P l.toArray Q i (wpList P l.toArray Q (l.drop (i + 1))) a w := by unfold wpOp; simp only [hok]; exact h
    refine wpOp_mono (fun a' w' h' => ih (i + 1) _ a' w' (by omega) (by omega) (by omega) (by simpa using hs) ?_ ?_ h') hw
    · intro j hj
      by_cases hji : j = i
      · subst hji; simp [hs, hkl]
      · exact getD_set_true (h1 j (by omega))
    · intro j hj hjl
      rw [getD_set_ne true (by omega)]
      exact h2 j (by omega) hjl

/-- How many are still to come. -/
def left (listed : Array Bool) : Nat := (listed.toList.filter (!·)).length

theorem left_set {listed : Array Bool} {i : Nat} (hi : i < listed.size) (h : listed.getD i true = false) : left (listed.setIfInBounds i true) + 1 = left listed := by
  unfold left
  have hl : i < listed.toList.length := by simpa using hi
  have hv : listed.toList[i] = false := by simpa [hi] using h
  rw [Array.toList_setIfInBounds]
  generalize listed.toList = L at *
  clear h hi listed
  induction L generalizing i with
  | nil => simp at hl
  | cons x L ih =>
    cases i with
    | zero => simp at hv; subst hv; simp
    | succ i =>
      have := ih (i := i) (by simpa using hl) (by simpa using hv)
      cases x <;> simp at * <;> omega

theorem getT_out : ∀ (t : List LV) (i : Nat), t.length ≤ i → getT t i = .bad
  | [], i, _ => by cases i <;> rfl
  | x :: t, 0, h => by simp at h
  | x :: t, i + 1, h => getT_out t i (by simpa using h)

theorem putD_get (d : Option Nat) (t : List LV) (x : LV) (i : Nat) : getT (putD d t x) i = if d = some i ∧ i < t.length then x else getT t i := by
  cases d with
  | none => simp [putD]
  | some d =>
    simp only [putD, getT_set, Option.some.injEq]
    by_cases h : d = i
    · subst h; rfl
    · simp [h]

theorem putD_length (d : Option Nat) (t : List LV) (x : LV) : (putD d t x).length = t.length := by
  cases d with
  | none => rfl
  | some d => exact setT_length t d x

/-- The temporaries behind the first i operations, in the order of the text. -/
def lexT (l : List Oper) (t : List LV) (xs : Nat → LV) : Nat → List LV
  | 0 => t
  | i + 1 => putD ((l[i]?).bind (·.dst)) (lexT l t xs i) (xs i)

theorem lexT_length (l : List Oper) (t : List LV) (xs : Nat → LV) : ∀ i, (lexT l t xs i).length = t.length
  | 0 => rfl
  | i + 1 => by unfold lexT; rw [putD_length]; exact lexT_length l t xs i

theorem lexT_none (l : List Oper) (t : List LV) (xs : Nat → LV) (d : Nat) : ∀ i, (∀ (j : Nat) (o : Oper), j < i → l[j]? = some o → o.dst ≠ some d) → getT (lexT l t xs i) d = getT t d
  | 0, _ => rfl
  | i + 1, h => by
    unfold lexT
    rw [putD_get, if_neg, lexT_none l t xs d i fun j o hj => h j o (by omega)]
    rintro ⟨hd, _⟩
    cases ho : l[i]? with
    | none => simp [ho] at hd
    | some o => simp [ho] at hd; exact h i o (by omega) ho hd

theorem lexT_some (l : List Oper) (t : List LV) (xs : Nat → LV) (d n j : Nat) (o : Oper) (ho : l[j]? = some o) (ht : o.dst = some d)
    (hu : ∀ (k : Nat) (x : Oper), k < n → l[k]? = some x → x.dst = some d → k = j) : ∀ i, j < i → i ≤ n → getT (lexT l t xs i) d = if d < t.length then xs j else .bad := by
  intro i
  induction i with
  | zero => intro h; omega
  | succ i ih =>
    intro hji hin
    unfold lexT
    rw [putD_get, lexT_length]
    by_cases hj : i = j
    · subst hj
      simp only [ho, Option.bind_some, ht, true_and]
      by_cases hs : d < t.length
      · rw [if_pos hs, if_pos hs]
      · rw [if_neg hs, if_neg hs]
        exact getT_out _ _ (by rw [lexT_length]; omega)
    · rw [if_neg, ih (by omega) (by omega)]
      rintro ⟨hd, _⟩
      cases hx : l[i]? with
      | none => simp [hx] at hd
      | some x => simp [hx] at hd; exact hj (hu i x (by omega) hx hd)

theorem mo_grow {C C' : Cx} (hρ : C'.ρ = C.ρ) (hv : C'.vs = C.vs) (hb : Below C.w.heap.size C.w C'.w) (hX : ∀ b, b < C.w.heap.size → C'.X b → C.X b) : Mo C C' := by
  refine ⟨fun k ver b o h1 h2 => .inl ⟨by rw [hρ]; exact h1, by rw [hv]; exact h2, fun n hn => ?_⟩, fun k cur h => ⟨cur, by rw [hv]; exact h, Nat.le_refl _⟩, fun b off u h1 h2 h3 => ?_⟩
  · obtain ⟨us, t, e, hs⟩ := hn
    have hlt : b < C.w.heap.size := (Array.getElem?_eq_some_iff.1 e).1
    exact ⟨us, t, by rw [hb.block b hlt]; exact e, hs⟩
  · have hlt : b < C.w.heap.size := by
      rcases Nat.lt_or_ge b C.w.heap.size with h | h
      · exact h
      · unfold World.cell? at h3
        simp [Array.getElem?_eq_none h] at h3
    exact ⟨(hb.cell (p := ⟨b, off, none⟩) hlt).trans h3, fun ⟨k, o, e⟩ => h1 ⟨k, o, by rw [← hρ]; exact e⟩, fun h => h2 (hX b hlt h)⟩

/-- The blocks of the new variables so far are not to be leant on. -/
def Cg (C : Cx) (gz : Nat → Option LV) (bk : Nat → Nat) (n : Nat) (listed : Array Bool) (w : World) : Cx :=
  { C with w := w, X := fun b => C.X b ∨ ∃ i, i < n ∧ listed.getD i false = true ∧ (gz i).isSome = true ∧ bk i = b }

/-- What a new variable holds by now: what it begins with, or what the one store into it has left there. -/
def gcon (gj : Nat → Option Nat) (fc : Nat → List LV) (listed : Array Bool) (i : Nat) (z : LV) : List LV :=
  match gj i with
  | some j => if listed.getD j false = true then fc i else z.cells
  | none => fc i

/-- Where the new variables are. -/
def Ghosts (C : Cx) (l : List Oper) (gz : Nat → Option LV) (gj : Nat → Option Nat) (fc : Nat → List LV) (bk : Nat → Nat) (n : Nat) (listed : Array Bool) (a : Act) (w : World) : Prop :=
  (∀ i z, i < n → gz i = some z → listed.getD i false = true → C.w.heap.size ≤ bk i ∧ bk i < w.heap.size ∧ (∃ us ty, w.heap[bk i]? = some (.cells us ty (0, 0)) ∧ ConcL (Cg C gz bk n listed w) (gcon gj fc listed i z) us.toList) ∧
    ∀ (o : Oper) d, l[i]? = some o → o.dst = some d → d < a.tmps.size → a.tmps.getD d undef = .pointer (some ⟨bk i, 0, none⟩)) ∧
  ∀ i j, i < n → j < n → (gz i).isSome = true → (gz j).isSome = true → listed.getD i false = true → listed.getD j false = true → bk i = bk j → i = j

/-- The frame, of which some operations among the first n have come up. -/
structure Half (l : List Oper) (n : Nat) (A : Act) (C : Cx) (t : List LV) (xs : Nat → LV) (gz : Nat → Option LV) (gj : Nat → Option Nat) (fc : Nat → List LV) (bk : Nat → Nat) (listed : Array Bool) (a : Act) (w : World) : Prop where
  size : listed.size = l.length
  closed : ∀ (j : Nat) (o : Oper), l[j]? = some o → listed.getD j false = true → ∀ e ∈ o.after, Region.binds .any e = true → listed.getD e.on false = true
  tail : ∀ d, n ≤ d → d < l.length → listed.getD d true = false
  defers : a.defers = A.defers
  tsize : a.tmps.size = A.tmps.size
  ext : Below C.w.heap.size C.w w
  done : ∀ (i : Nat) (o : Oper) (d : Tmp), i < n → l[i]? = some o → o.dst = some d → listed.getD i false = true → Conc (Cg C gz bk n listed w) (getT (lexT l t xs n) d) (a.tmps.getD d undef)
  wait : ∀ (d : Tmp), (∀ (i : Nat) (o : Oper), i < n → l[i]? = some o → o.dst = some d → listed.getD i false = false) → Conc (Cg C gz bk n listed w) (getT t d) (a.tmps.getD d undef)
  ghost : Ghosts C l gz gj fc bk n listed a w

/-- What is known behind the first n operations. -/
theorem Half.full {n : Nat} {A : Act} {C : Cx} {t : List LV} {xs : Nat → LV} {gz : Nat → Option LV} {gj : Nat → Option Nat} {fc : Nat → List LV} {bk : Nat → Nat} {listed : Array Bool} {a : Act} {w : World} (H : Half l n A C t xs gz gj fc bk listed a w) (hall : ∀ j, j < n → listed.getD j false = true) (hlen : t.length = A.tmps.size) :
    TmpR (Cg C gz bk n listed w) (lexT l t xs n) a := by
  refine ⟨by rw [lexT_length, hlen, H.tsize], fun d => ?_⟩
  by_cases hw : ∃ (i : Nat) (o : Oper), i < n ∧ l[i]? = some o ∧ o.dst = some d
  · obtain ⟨i, o, hi, ho, hd⟩ := hw
    exact H.done i o d hi ho hd (hall i hi)
  · have hno : ∀ (i : Nat) (o : Oper), i < n → l[i]? = some o → o.dst ≠ some d := fun i o hi ho hd => hw ⟨i, o, hi, ho, hd⟩
    rw [lexT_none l t xs d n hno]
    exact H.wait d fun i o hi ho hd => absurd hd (hno i o hi ho)

theorem cg_rel {n : Nat} {C : Cx} {gz : Nat → Option LV} {gj : Nat → Option Nat} {fc : Nat → List LV} {bk : Nat → Nat} {listed : Array Bool} {a : Act} {w : World} (hr : Rel C B h) (hb : Below C.w.heap.size C.w w) (hg : Ghosts C l gz gj fc bk n listed a w) : Rel (Cg C gz bk n listed w) B h := by
  have hr' := hr.grow hb
  have hmo : Mo { C with w := w } (Cg C gz bk n listed w) → True := fun _ => trivial
  have hfresh : ∀ i, i < n → listed.getD i false = true → (gz i).isSome = true → C.w.heap.size ≤ bk i ∧ bk i < w.heap.size := fun i h1 h2 h3 => by
    obtain ⟨z, hz⟩ := Option.isSome_iff_exists.1 h3
    obtain ⟨a1, a2, _⟩ := hg.1 i z h1 hz h2
    exact ⟨a1, a2⟩
  have hmo2 : Mo C (Cg C gz bk n listed w) := mo_grow rfl rfl hb fun b hlt hx => by
    rcases hx with hx | ⟨i, h1, h2, h3, h4⟩
    · exact hx
    · have := (hfresh i h1 h2 h3).1; omega
  refine ⟨hr.len, hr.vs, hr.inj, fun k b o r h1 h2 => ?_, fun b hx => ?_, hr'.size⟩
  · obtain ⟨x1, us, tt, x2, x3, x4⟩ := hr.row k b o r h1 h2
    have hlt : b < C.w.heap.size := (Array.getElem?_eq_some_iff.1 x2).1
    refine ⟨x1, us, tt, ?_, x3, fun i c hi => ?_⟩
    · show w.heap[b]? = _
      rw [hb.block b hlt]; exact x2
    · obtain ⟨u, y1, y2⟩ := x4 i c hi
      exact ⟨u, y1, y2.mo hmo2⟩
  · rcases hx with hx | ⟨i, h1, h2, h3, h4⟩
    · exact ⟨Nat.lt_of_lt_of_le (hr.X b hx).1 hb.size, (hr.X b hx).2⟩
    · subst h4
      obtain ⟨f1, f2⟩ := hfresh i h1 h2 h3
      refine ⟨f2, fun ⟨k, o, e⟩ => ?_⟩
      have e' : C.ρ[k]? = some (some (bk i, o)) := e
      have hlt : k < h.length := by rw [← hr.len]; exact (List.getElem?_eq_some_iff.1 e').1
      obtain ⟨_, us, tt, x2, _⟩ := hr.row k _ o h[k] e' (by simp [hlt])
      have := (Array.getElem?_eq_some_iff.1 x2).1
      omega

theorem box_inv {o : Oper} {y : MO} (hm : cOp P o = some (.box y)) : (∃ ty z, o.op = .alloc ty ∧ zeroT P ty = some z ∧ y = .c z) ∨ (∃ ty x, o.op = .box ty x ∧ cO x = some y) := by
  replace hm := (cOp_cases hm).resolve_right (by simp)
  cases ho : o.op <;> simp only [cOp0, ho] at hm <;> try (first | (simp at hm; done) | (simp only [Option.map_eq_some_iff] at hm; obtain ⟨_, _, hh⟩ := hm; cases hh; done))
  case alloc ty =>
    simp only [Option.map_eq_some_iff] at hm
    obtain ⟨z, hz, hh⟩ := hm
    cases hh
    exact .inl ⟨ty, z, rfl, hz, rfl⟩
  case box ty x =>
    simp only [Option.map_eq_some_iff] at hm
    obtain ⟨z, hz, hh⟩ := hm
    cases hh
    exact .inr ⟨ty, x, rfl, hz⟩
  case pick => simp [Option.bind_eq_some_iff] at hm
  case slice ty x lo hi mx =>
    split at hm <;> try (simp at hm; done)
    all_goals (split at hm <;> simp [Option.bind_eq_some_iff] at hm)
  case typeAssert =>
    split at hm <;> try (simp at hm; done)
    split at hm <;> simp at hm
  case sliceToArrayPointer => split at hm <;> simp at hm
  case makeSlice =>
    split at hm <;> try (simp at hm; done)
    split at hm <;> try (simp at hm; done)
    split at hm <;> try (simp at hm; done)
    split at hm <;> simp at hm
  case build ty ps => split at hm <;> try (simp at hm; done)
                      all_goals (split at hm <;> simp at hm)
  case buildSlice => split at hm <;> try (simp at hm; done)
                     split at hm <;> try (simp at hm; done)
  case load => simp [Option.bind_eq_some_iff] at hm
  case store => simp [Option.bind_eq_some_iff] at hm
  case fieldAddr => split at hm <;> simp [Option.bind_eq_some_iff] at hm
  case field => split at hm <;> simp [Option.bind_eq_some_iff] at hm
  case indexAddr => split at hm <;> simp [Option.bind_eq_some_iff] at hm
  case index => split at hm <;> simp [Option.bind_eq_some_iff] at hm
  case binOp op ty x y u =>
    split at hm
    · simp [Option.bind_eq_some_iff] at hm
    · split at hm <;> try (simp at hm; done)
      all_goals (
        unfold cEq at hm
        split at hm
        · split at hm <;> try (simp at hm; done)
          split at hm <;> simp at hm
        · split at hm <;> try (simp at hm; done)
          split at hm <;> simp at hm)
  case convert => split at hm <;> try (simp at hm; done)
                  split at hm <;> simp at hm
  case makeInterface => split at hm <;> simp at hm
  case makeFunc fn _ _ => cases fn <;> simp at hm
  case call c =>
    obtain ⟨callee, args, argT⟩ := c
    cases callee with
    | value f => simp [Option.bind_eq_some_iff] at hm
    | invoke r n => simp [Option.bind_eq_some_iff] at hm
    | builtin b =>
      cases b <;> simp at hm
      case append =>
        obtain ⟨_, _, _, _, _, _, _, _, _, _, _, _, _, _, _, _, hh⟩ := cApp_inv hm
        cases hh
      case clear =>
        split at hm <;> try (simp at hm; done)
        split at hm <;> try (simp at hm; done)
      split at hm <;> simp at hm

theorem ghost_run {ops : Array Oper} {o : Oper} {m : MI} {z : LV} (hm : cI P ops o = some m) (hz : ghostZ m = some z) (a : Act) (w : World) :
    o.guard = none ∧ m.dst = o.dst ∧ m.op = .box (.c z) ∧ m.g = none ∧ z.cells.all atomB = true ∧ ∃ us ty, (execOp a.eval o).run P w = .ok (.value (.pointer (some ⟨w.heap.size, 0, none⟩))) (w.alloc (.cells us ty (0, 0))) ∧ ∀ D : Cx, ConcL D z.cells us.toList := by
  obtain ⟨dst, op, g⟩ := m
  simp only [ghostZ] at hz
  split at hz <;> try (simp at hz; done)
  rename_i z' d
  split at hz <;> simp at hz
  rename_i hat
  subst hz
  unfold cI at hm
  simp only [Option.bind_eq_bind, Option.bind_eq_some_iff] at hm
  obtain ⟨op, hop, hm⟩ := hm
  cases hg : o.guard with
  | some gw =>
    obtain ⟨g, want⟩ := gw
    simp only [hg] at hm
    split at hm <;> simp at hm
  | none =>
    simp only [hg, Option.pure_def, Option.some.injEq, MI.mk.injEq] at hm
    obtain ⟨h1, h2, _⟩ := hm
    subst h2
    refine ⟨rfl, h1.symm, rfl, rfl, hat, ?_⟩
    rcases box_inv hop with ⟨ty, z, ho, hz, hh⟩ | ⟨ty, x, ho, hx⟩
    · cases hh
      obtain ⟨v, hv, rfl⟩ := zeroT_run hz w
      exact ⟨v.cells, ty, by simp [execOp, ho, Instr.alloc, newVar, newRow, hv], fun D => ((liftV_conc (C := D) v).cells hat).1⟩
    · refine ⟨(a.eval x).cells, ty, by simp [execOp, ho, Instr.box, newVar, newRow], fun D => ?_⟩
      have hc : Conc D (ev [] (.c z')) (a.eval x) := cO_ev x _ hx fun i hi => by
        subst hi
        simp [cO] at hx
      exact (hc.cells hat).1

theorem st_inv {o : Oper} {mx my : MO} {n : Nat} (hm : cOp P o = some (.st mx my n)) : ∃ ty x y, o.op = .store ty x y ∧ sizeT P ty = some n ∧ cO x = some mx ∧ cO y = some my := by
  replace hm := (cOp_cases hm).resolve_right (by simp)
  cases ho : o.op <;> simp only [cOp0, ho] at hm <;> try (first | (simp at hm; done) | (simp only [Option.map_eq_some_iff] at hm; obtain ⟨_, _, hh⟩ := hm; cases hh; done))
  case store ty x y =>
    simp only [Option.bind_eq_bind, Option.bind_eq_some_iff, Option.pure_def, Option.some.injEq] at hm
    obtain ⟨mx', h1, my', h2, n', hn, hh⟩ := hm
    cases hh
    exact ⟨ty, x, y, rfl, hn, h1, h2⟩
  case pick => simp [Option.bind_eq_some_iff] at hm
  case slice ty x lo hi mx =>
    split at hm <;> try (simp at hm; done)
    all_goals (split at hm <;> simp [Option.bind_eq_some_iff] at hm)
  case typeAssert =>
    split at hm <;> try (simp at hm; done)
    split at hm <;> simp at hm
  case sliceToArrayPointer => split at hm <;> simp at hm
  case makeSlice =>
    split at hm <;> try (simp at hm; done)
    split at hm <;> try (simp at hm; done)
    split at hm <;> try (simp at hm; done)
    split at hm <;> simp at hm
  case build ty ps => split at hm <;> try (simp at hm; done)
                      all_goals (split at hm <;> simp at hm)
  case buildSlice => split at hm <;> try (simp at hm; done)
                     split at hm <;> try (simp at hm; done)
  case load => simp [Option.bind_eq_some_iff] at hm
  case fieldAddr => split at hm <;> simp [Option.bind_eq_some_iff] at hm
  case field => split at hm <;> simp [Option.bind_eq_some_iff] at hm
  case indexAddr => split at hm <;> simp [Option.bind_eq_some_iff] at hm
  case index => split at hm <;> simp [Option.bind_eq_some_iff] at hm
  case binOp op ty x y u =>
    split at hm
    · simp [Option.bind_eq_some_iff] at hm
    · split at hm <;> try (simp at hm; done)
      all_goals (
        unfold cEq at hm
        split at hm
        · split at hm <;> try (simp at hm; done)
          split at hm <;> simp at hm
        · split at hm <;> try (simp at hm; done)
          split at hm <;> simp at hm)
  case convert => split at hm <;> try (simp at hm; done)
                  split at hm <;> simp at hm
  case makeInterface => split at hm <;> simp at hm
  case makeFunc fn _ _ => cases fn <;> simp at hm
  case call c =>
    obtain ⟨callee, args, argT⟩ := c
    cases callee with
    | value f => simp [Option.bind_eq_some_iff] at hm
    | invoke r n => simp [Option.bind_eq_some_iff] at hm
    | builtin b =>
      cases b <;> simp at hm
      case append =>
        obtain ⟨_, _, _, _, _, _, _, _, _, _, _, _, _, _, _, _, hh⟩ := cApp_inv hm
        cases hh
      case clear =>
        split at hm <;> try (simp at hm; done)
        split at hm <;> try (simp at hm; done)
      split at hm <;> simp at hm

theorem gst_run {ops : Array Oper} {o : Oper} {m : MI} {d sz : Nat} {b : MO} (hm : cI P ops o = some m) (hz : gstZ m = some (d, b, sz)) :
    o.guard = none ∧ o.dst = none ∧ ∃ ty y, o.op = .store ty (.tmp d) y ∧ sizeT P ty = some sz ∧ cO y = some b := by
  obtain ⟨dst, op, g⟩ := m
  simp only [gstZ] at hz
  split at hz <;> simp at hz
  obtain ⟨rfl, rfl, rfl⟩ := hz
  unfold cI at hm
  simp only [Option.bind_eq_bind, Option.bind_eq_some_iff] at hm
  obtain ⟨op, hop, hm⟩ := hm
  cases hgo : o.guard with
  | some gw =>
    obtain ⟨g, want⟩ := gw
    simp only [hgo] at hm
    split at hm <;> simp at hm
  | none =>
    simp only [hgo, Option.pure_def, Option.some.injEq, MI.mk.injEq] at hm
    obtain ⟨h1, h2, _⟩ := hm
    subst h2
    obtain ⟨ty, x, y, e1, e2, e3, e4⟩ := st_inv hop
    refine ⟨rfl, h1, ty, y, ?_, e2, e4⟩
    have hx : ∀ d, cO x = some (.t d) → x = .tmp d := fun d e3 => by
      cases x with
      | tmp i => simp [cO] at e3; rw [e3]
      | const v => cases v <;> simp [cO] at e3
      | func g => simp [cO] at e3
      | global g => simp [cO] at e3
    rw [e1, hx _ e3]

theorem gst_exec {o : Oper} {ty : TypeId} {x y : Operand} {sz g : Nat} {us : Array Value} {tt : TypeId} {a : Act} {w : World} (ho : o.op = .store ty x y) (hs : sizeT P ty = some sz) (hu : a.eval x = .pointer (some ⟨g, 0, none⟩)) (h5 : w.heap[g]? = some (.cells us tt (0, 0)))
    (hsz : us.size = sz) (hsize : (a.eval y).cells.size = sz) (c3 : ∀ v ∈ (a.eval y).cells.toList, v.oneCell' = true) :
    (execOp a.eval o).run P w = .ok .skip (w.setRow g (a.eval y).cells) := by
  have hrun := run_storeCells_at P g 0 tt (a.eval y).cells.toList 0 us w h5 (by simp only [Array.length_toList, hsize]; omega) c3
  simp only [Nat.add_zero] at hrun
  have e : (us.toList.take 0 ++ (a.eval y).cells.toList ++ us.toList.drop (0 + (a.eval y).cells.toList.length)).toArray = (a.eval y).cells := by
    rw [List.drop_of_length_le (by simp only [Array.length_toList]; omega)]
    simp
  rw [e] at hrun
  simp only [execOp, ho, Instr.storeAt, hu, Instr.sureAddr, storeVar, Sem.run_bind, Sem.run_pure, Result.andThen_ok, run_sizeT hs, hsize, ne_eq, not_true_eq_false, if_false, hrun]

theorem head_any (hcal : CalOK P cal) {n : Nat} {A : Act} {C : Cx} {t : List LV} {xs : Nat → LV} {gz : Nat → Option LV} {gj : Nat → Option Nat} {fc : Nat → List LV} (hn : n ≤ l.length) (hf : Flow l.toArray n) (hr : Rel C B h) (hlen : t.length = A.tmps.size)
    (hm : ∀ (i : Nat) (o : Oper), i < n → l[i]? = some o → ∃ m, cI P l.toArray o = some m ∧
      ((gz i = none ∧ (∀ k, gj k ≠ some i) ∧ quietOp m.op = true ∧ evMI cal true lim m (lexT l t xs i, h) = some (lexT l t xs (i + 1), h)) ∨
       (∃ z, gz i = some z ∧ (∀ k, gj k ≠ some i) ∧ ghostZ m = some z ∧ lexT l t xs (i + 1) = putD o.dst (lexT l t xs i) .bad) ∨
       (gz i = none ∧ ∃ k z d b sz, k < n ∧ gz k = some z ∧ gj k = some i ∧ gstZ m = some (d, b, sz) ∧ (∃ o', l[k]? = some o' ∧ o'.dst = some d) ∧ d < t.length ∧ (ev (lexT l t xs i) b).cells.length = sz ∧ (ev (lexT l t xs i) b).cells.all atomB = true ∧ z.cells.length = sz ∧ fc k = (ev (lexT l t xs i) b).cells)))
    (hfz : ∀ i z, i < n → gz i = some z → gj i = none → fc i = z.cells)
    (hst : ∀ k j, gj k = some j → k < j ∧ j < n ∧ ∃ o o' d, l[j]? = some o ∧ l[k]? = some o' ∧ o'.dst = some d ∧ d ∈ o.looksAt l.toArray)
    (hu : ∀ k k' j, gj k = some j → gj k' = some j → k = k')
    (hxs : ∀ (i : Nat) (o : Oper) x, i < n → l[i]? = some o → lexT l t xs (i + 1) = putD o.dst (lexT l t xs i) x → ∀ d, o.dst = some d → d < t.length → xs i = x)
    (hQ : ∀ a w bk listed, Below C.w.heap.size C.w w → (∀ j, j < n → listed.getD j false = true) → TmpR (Cg C gz bk n listed w) (lexT l t xs n) a → Ghosts C l gz gj fc bk n listed a w → a.defers = A.defers → wpList P l.toArray Q (l.drop n) a w) :
    ∀ (f : Nat) (listed : Array Bool) (bk : Nat → Nat) (a : Act) (w : World), f = left listed → Half l n A C t xs gz gj fc bk listed a w → wpAny P .any l.toArray Q f listed a w := by
  have getl : ∀ {i : Nat} {o : Oper}, l.toArray[i]? = some o ↔ l[i]? = some o := by intro i o; simp
  intro f
  induction f with
  | zero =>
    intro listed bk a w hf0 H
    have hall : ∀ j, j < l.length → listed.getD j false = true := by
      intro j hj
      cases hv : listed.getD j false with
      | true => rfl
      | false =>
        have := left_set (i := j) (by rw [H.size]; exact hj) (by rw [← getD_ft (by rw [H.size]; exact hj)]; exact hv)
        omega
    have hnl : n = l.length := by
      rcases Nat.lt_or_ge n l.length with h | h
      · have := H.tail n (Nat.le_refl _) h
        rw [← getD_ft (by rw [H.size]; exact h), hall n h] at this
        cases this
      · omega
    exact tail_any (Q := Q) hf 0 n listed _ w (Nat.le_refl _) (by omega) (by omega) H.size (fun j hj => hall j (by omega)) (fun j hj hjl => by omega)
      (hQ a w bk listed H.ext (fun j hj => hall j (by omega)) (H.full (fun j hj => hall j (by omega)) hlen) H.ghost H.defers)
  | succ f ih =>
    intro listed bk a w hfl H
    by_cases hhead : ∀ j, j < n → listed.getD j false = true
    · have hcount : left listed = l.length - n := by
        unfold left
        have e : listed.toList = List.replicate n true ++ List.replicate (l.length - n) false := by
          refine List.ext_getElem (by simp [H.size]; omega) fun i h1 h2 => ?_
          have hi : i < listed.size := by simpa using h1
          rw [List.getElem_append]
          by_cases hin : i < n
          · have := hhead i hin
            simp [hin]
            simpa [hi] using this
          · have := H.tail i (by omega) (by rw [← H.size]; exact hi)
            simp [hin]
            simpa [hi] using this
        rw [e]
        simp
      rw [show f + 1 = l.length - n by omega]
      exact tail_any (Q := Q) hf _ n listed _ w (Nat.le_refl _) hn rfl H.size hhead H.tail (hQ a w bk listed H.ext hhead (H.full hhead hlen) H.ghost H.defers)
    · have hex : ∃ j, j < n ∧ listed.getD j false = false := by
        refine Classical.byContradiction fun hno => hhead fun j hj => ?_
        cases hv : listed.getD j false with
        | true => rfl
        | false => exact absurd ⟨j, hj, hv⟩ hno
      refine ⟨fun h0 => ?_, fun i hi => ?_⟩
      · exfalso
        obtain ⟨j, hj, hjv⟩ := hex
        have : ∀ m, ∀ j, j < m → j < n → listed.getD j false = false → False := by
          intro m
          induction m with
          | zero => intro j hj; omega
          | succ m ihm =>
            intro j hjm hjn hjv
            have hjl : j < l.length := by omega
            have hr : j ∈ Region.ready .any l.toArray listed := by
              refine mem_ready.2 ⟨by rw [← getD_ft (by rw [H.size]; exact hjl)]; exact hjv, l[j], by simp [hjl], fun e he hb => ?_⟩
              have hlt := hf.early j l[j] (by simp [hjl]) e he hb
              cases hv : listed.getD e.on false with
              | true => rfl
              | false => exact (ihm e.on (by omega) (by omega) hv).elim
            rw [h0] at hr
            cases hr
        exact this (j + 1) j (by omega) hj hjv
      · obtain ⟨hun, o, ho, hall⟩ := mem_ready.1 hi
        have hil : i < l.length := by simpa using (Array.getElem?_eq_some_iff.1 ho).1
        have hin : i < n := by
          rcases Nat.lt_or_ge i n with h | h
          · exact h
          · exfalso
            obtain ⟨j, hj, hjv⟩ := hex
            rcases Nat.lt_or_ge n i with h' | h'
            · obtain ⟨e, he, hb, hon⟩ := hf.tail i o ho h'
              have := hall e he hb
              rw [hon, getD_ft (by rw [H.size]; omega), H.tail (i - 1) (by omega) (by omega)] at this
              cases this
            · obtain rfl : i = n := by omega
              have := hf.join o ho (fun k => listed.getD k false = true) (fun k x _ hx hk e he hb => H.closed k x (getl.1 hx) hk e he hb) (fun e he hb => hall e he hb) j hj
              rw [hjv] at this
              cases this
        have hol := getl.1 ho
        have hunf : listed.getD i false = false := by rw [getD_ft (by rw [H.size]; exact hil)]; exact hun
        -- what it looks at stands for what it does in the order of the text
        have hlook : ∀ d ∈ o.looksAt l.toArray, Conc (Cg C gz bk n listed w) (getT (lexT l t xs i) d) (a.tmps.getD d undef) := by
          intro d hd'
          by_cases hw : ∃ (j : Nat) (y : Oper), j < n ∧ l[j]? = some y ∧ y.dst = some d
          · obtain ⟨j, y, hj, hy, hd⟩ := hw
            have huq : ∀ (k : Nat) (x : Oper), k < n → l[k]? = some x → x.dst = some d → k = j := fun k x hk hx hxt => hf.uniq k j x y d hk hj (getl.2 hx) (getl.2 hy) hxt hd
            have late : i ≤ j → listed.getD j false = false → Conc (Cg C gz bk n listed w) (getT (lexT l t xs i) d) (a.tmps.getD d undef) := by
              intro hij hjf
              rw [lexT_none l t xs d i fun k x hk hx hxt => by have := huq k x (by omega) hx hxt; omega]
              exact H.wait d fun k x hk hx hxt => by rw [huq k x hk hx hxt]; exact hjf
            rcases hf.flow i j o y d hin hj ho (getl.2 hy) hd hd' with h | ⟨h, e, he, hb, hon⟩ | ⟨h, e, he, hb, hon⟩
            · subst h; exact late (Nat.le_refl _) hunf
            · have hjl : listed.getD j false = true := by rw [← hon]; exact hall e he hb
              have := H.done j y d hj hy hd hjl
              rw [lexT_some l t xs d n j y hy hd huq n hj (Nat.le_refl _)] at this
              rw [lexT_some l t xs d n j y hy hd huq i h (by omega)]
              exact this
            · refine late (by omega) ?_
              cases hv : listed.getD j false with
              | false => rfl
              | true =>
                have := H.closed j y hy hv e he hb
                rw [hon, hunf] at this
                cases this
          · have hno : ∀ (k : Nat) (x : Oper), k < n → l[k]? = some x → x.dst ≠ some d := fun k x hk hx hd => hw ⟨k, x, hk, hx, hd⟩
            rw [lexT_none l t xs d i fun k x hk hx => hno k x (by omega) hx]
            exact H.wait d fun k x hk hx hxt => absurd hxt (hno k x hk hx)
        obtain ⟨m, hm1, hm2⟩ := hm i o hin hol
        have hrw : Rel (Cg C gz bk n listed w) B h := cg_rel hr H.ext H.ghost
        have hgetA : ∀ u d, (a.put o.dst u).tmps.getD d undef = if o.dst = some d ∧ d < a.tmps.size then u else a.tmps.getD d undef := by
          intro u d
          cases hdst : o.dst with
          | none => simp [Act.put]
          | some d' =>
            simp only [Act.put, Option.some.injEq]
            by_cases h : d' = d
            · subst h
              by_cases hs : d' < a.tmps.size
              · simp [hs]
              · simp [hs]
            · rw [if_neg (fun hh => h hh.1)]
              simp [Array.getElem?_setIfInBounds_ne h]
        have lset : ∀ j, (listed.setIfInBounds i true).getD j false = true → j ≠ i → listed.getD j false = true := by
          intro j hl hij
          rw [getD_set_ne false (fun h => hij h.symm)] at hl
          exact hl
        -- what is common to both kinds
        have step : ∀ (x : LV) (u : Value) (w' : World) (bk' : Nat → Nat), Below C.w.heap.size C.w w' → (∀ d, o.dst = some d → d < t.length → xs i = x) → Mo (Cg C gz bk n listed w) (Cg C gz bk' n (listed.setIfInBounds i true) w') → Conc (Cg C gz bk' n (listed.setIfInBounds i true) w') x u →
            Ghosts C l gz gj fc bk' n (listed.setIfInBounds i true) (a.put o.dst u) w' → wpAny P .any l.toArray Q f (listed.setIfInBounds i true) (a.put o.dst u) w' := by
          intro x u w' bk' hb' hxi hle hcu hgh
          have hget := hgetA u
          refine ih _ bk' _ w' (by have := left_set (by rw [H.size]; exact hil) hun; omega) ⟨by simpa using H.size, ?_, ?_, ?_, ?_, ?_, ?_, ?_, hgh⟩
          · intro j y hy hl e he' hb
            by_cases hij : j = i
            · subst hij
              rw [hy] at hol
              obtain rfl := Option.some.inj hol
              exact getD_set_true (hall e he' hb)
            · exact getD_set_true (H.closed j y hy (lset j hl hij) e he' hb)
          · intro d hd hdl
            rw [getD_set_ne true (by omega)]
            exact H.tail d hd hdl
          · rw [put_defers]; exact H.defers
          · cases hdst : o.dst <;> simp [Act.put, H.tsize]
          · exact hb'
          · intro j y d hj hy hd hl
            rw [hget]
            by_cases hij : j = i
            · subst hij
              rw [hy] at hol
              obtain rfl := Option.some.inj hol
              have huq : ∀ (k : Nat) (x : Oper), k < n → l[k]? = some x → x.dst = some d → k = j := fun k x hk hx hxt => hf.uniq k j x y d hk hj (getl.2 hx) (getl.2 hy) hxt hd
              rw [lexT_some l t xs d n j y hy hd huq n hj (Nat.le_refl _)]
              by_cases hs : d < t.length
              · rw [if_pos hs, if_pos ⟨hd, by rw [H.tsize, ← hlen]; exact hs⟩, hxi d hd hs]
                exact hcu
              · rw [if_neg hs]; exact .bad _
            · rw [if_neg]
              · exact (H.done j y d hj hy hd (lset j hl hij)).mo hle
              · rintro ⟨hdo, _⟩
                exact hij (hf.uniq j i y o d hj hin (getl.2 hy) ho hd hdo)
          · intro d hno
            have hdo : o.dst ≠ some d := fun hd => by
              have := hno i o hin hol hd
              rw [show (listed.setIfInBounds i true).getD i false = true by simp [H.size, hil]] at this
              cases this
            rw [hget, if_neg (fun h => hdo h.1)]
            refine (H.wait d fun j y hj hy hd => ?_).mo hle
            have hij : i ≠ j := fun h => by
              subst h
              rw [hy] at hol
              obtain rfl := Option.some.inj hol
              exact hdo hd
            have := hno j y hj hy hd
            rwa [getD_set_ne false hij] at this
        -- a ghost of before is one still
        have keep : ∀ (u : Value) (w' : World) (bk' : Nat → Nat) (j : Nat) (z : LV), j < n → gz j = some z → listed.getD j false = true → j ≠ i → bk' j = bk j → w.heap.size ≤ w'.heap.size → w'.heap[bk j]? = w.heap[bk j]? → Mo (Cg C gz bk n listed w) (Cg C gz bk' n (listed.setIfInBounds i true) w') → gj j ≠ some i →
            C.w.heap.size ≤ bk' j ∧ bk' j < w'.heap.size ∧ (∃ us ty, w'.heap[bk' j]? = some (.cells us ty (0, 0)) ∧ ConcL (Cg C gz bk' n (listed.setIfInBounds i true) w') (gcon gj fc (listed.setIfInBounds i true) j z) us.toList) ∧
              ∀ (y : Oper) d, l[j]? = some y → y.dst = some d → d < (a.put o.dst u).tmps.size → (a.put o.dst u).tmps.getD d undef = .pointer (some ⟨bk' j, 0, none⟩) := by
          intro u w' bk' j z hj hz hl hij hbk hsz hsame hmo hgj
          obtain ⟨g1, g2, ⟨us, ty, g3, g4⟩, g5⟩ := H.ghost.1 j z hj hz hl
          have hcon : gcon gj fc (listed.setIfInBounds i true) j z = gcon gj fc listed j z := by
            unfold gcon
            cases hg : gj j with
            | none => rfl
            | some q =>
              simp only
              rw [getD_set_ne false (fun h => hgj (by rw [hg, h]))]
          rw [hbk, hcon]
          refine ⟨g1, Nat.lt_of_lt_of_le g2 hsz, ⟨us, ty, by rw [hsame]; exact g3, ⟨g4.1, fun q c v h1 h2 => (g4.2 q c v h1 h2).mo hmo⟩⟩, fun y d hy hd hlt => ?_⟩
          rw [hgetA, if_neg]
          · exact g5 y d hy hd (by cases hdst : o.dst <;> simpa [Act.put, hdst] using hlt)
          · rintro ⟨hdo, _⟩
            exact hij (hf.uniq j i y o d hj hin (getl.2 hy) ho hd hdo)
        rcases hm2 with ⟨hnot, hgn, hm2, hm3⟩ | ⟨z, hi, hgn, hgz', hlx⟩ | ⟨hnot, k, zk, d, b, sz, hk, hgk, hgjk, hgs, ⟨ok, hok, hokd⟩, hdl, hlen', hat, hzl, hfc⟩
        · obtain ⟨x, hx1, hx2⟩ := mi_any (C := Cg C gz bk n listed w) (B := B) (quiet := true) hcal hm1 (fun _ => hm2) hlook hrw hm3
          have hxi := hxs i o x hin hol hx1
          have next : ∀ u w', Below w.heap.size w w' → Conc { Cg C gz bk n listed w with w := w' } x u → wpAny P .any l.toArray Q f (listed.setIfInBounds i true) (a.put o.dst u) w' := by
            intro u w' hb' hcu
            have hX : ∀ b, (Cg C gz bk n (listed.setIfInBounds i true) w').X b → (Cg C gz bk n listed w).X b := by
              rintro b (hx | ⟨j, h1, h2, h3, h4⟩)
              · exact .inl hx
              · have hij : j ≠ i := fun h => by subst h; rw [hnot] at h3; cases h3
                exact .inr ⟨j, h1, lset j h2 hij, h3, h4⟩
            have hmo : Mo (Cg C gz bk n listed w) (Cg C gz bk n (listed.setIfInBounds i true) w') := mo_grow rfl rfl hb' fun b _ hx => hX b hx
            refine step x u w' bk (H.ext.trans (hb'.mono H.ext.size)) hxi hmo ?_ ⟨?_, ?_⟩
            · have hmm : Mo { Cg C gz bk n listed w with w := w' } (Cg C gz bk n (listed.setIfInBounds i true) w') :=
                ⟨fun k ver b o h1 h2 => .inl ⟨h1, h2, fun n h => h⟩, fun k cur h => ⟨cur, h, Nat.le_refl _⟩, fun b off u h1 h2 h3 => ⟨h3, h1, fun h => h2 (hX b h)⟩⟩
              exact hcu.mo hmm
            · intro j z hj hz hl
              have hij : j ≠ i := fun h => by subst h; rw [hnot] at hz; cases hz
              have hl' := lset j hl hij
              exact keep u w' bk j z hj hz hl' hij rfl hb'.size (hb'.block _ (H.ghost.1 j z hj hz hl').2.1) hmo (hgn j)
            · intro j j' hj hj' hz hz' hl hl' hbk
              have hij : j ≠ i := fun h => by subst h; rw [hnot] at hz; cases hz
              have hij' : j' ≠ i := fun h => by subst h; rw [hnot] at hz'; cases hz'
              exact H.ghost.2 j j' hj hj' hz hz' (lset j hl hij) (lset j' hl' hij') hbk
          unfold wpOp
          simp only [ho]
          rcases hx2 with ⟨hw, hdn⟩ | ⟨hw, hxu, _⟩
          · rw [hw, if_pos rfl]
            refine .inl (done_wp hdn fun u w' hp => ?_)
            obtain ⟨C', rfl, c1, c2, c3, c4, c5⟩ := hp
            obtain ⟨_, d1, d2, d3⟩ := c5 rfl
            refine next u C'.w d3 ?_
            have hX : C'.X = (Cg C gz bk n listed w).X := c3.X
            have hC' : C' = { Cg C gz bk n listed w with w := C'.w } := by
              cases C'
              simp only at d1 d2 hX ⊢
              subst d1; subst d2; subst hX
              rfl
            rw [hC'] at c1
            exact c1
          · rw [hw, if_neg (by simp)]
            exact next undef w (Below.refl _ _) (by rw [hxu]; exact .v _)
        · obtain ⟨q1, q2, q3, q4, q5, us, ty, q6, q7⟩ := ghost_run hm1 hgz' a w
          have hw : Region.wanted o (yielded l.toArray a.tmps) = true := by simp [Region.wanted, q1]
          have hb' : Below w.heap.size w (w.alloc (.cells us ty (0, 0))) := (Below.refl _ _).alloc (Nat.le_refl _) _
          have hmo : Mo (Cg C gz bk n listed w) (Cg C gz (fun j => if j = i then w.heap.size else bk j) n (listed.setIfInBounds i true) (w.alloc (.cells us ty (0, 0)))) := by
            refine mo_grow rfl rfl hb' ?_
            rintro b hlt (hx | ⟨j, h1, h2, h3, h4⟩)
            · exact .inl hx
            · by_cases hij : j = i
              · simp only [hij, if_true] at h4
                have : b < w.heap.size := hlt
                omega
              · simp only [hij, if_false] at h4
                exact .inr ⟨j, h1, lset j h2 hij, h3, h4⟩
          unfold wpOp
          simp only [ho]
          rw [hw, if_pos rfl]
          refine .inl ?_
          unfold Oper.wp
          rw [q6]
          simp only [Oper.upon]
          refine step .bad _ _ (fun j => if j = i then w.heap.size else bk j) (H.ext.trans (hb'.mono H.ext.size)) (hxs i o .bad hin hol hlx) hmo (.bad _) ⟨?_, ?_⟩
          · intro j z' hj hz hl
            by_cases hij : j = i
            · subst hij
              rw [hi] at hz
              cases hz
              have hcon : gcon gj fc (listed.setIfInBounds j true) j z = z.cells := by
                unfold gcon
                cases hg : gj j with
                | none => exact hfz j z hj hi hg
                | some q =>
                  obtain ⟨s1, s2, oq, oj, d, s3, s4, s5, s6⟩ := hst j q hg
                  rw [hol] at s4
                  obtain rfl := Option.some.inj s4
                  simp only
                  rw [getD_set_ne false (by omega)]
                  have hqf : listed.getD q false = false := by
                    cases hv : listed.getD q false with
                    | false => rfl
                    | true =>
                      rcases hf.flow q j oq o d s2 hin (getl.2 s3) ho s5 s6 with h | ⟨_, e, he, hb, hon⟩ | ⟨h, _⟩
                      · omega
                      · have := H.closed q oq s3 hv e he hb
                        rw [hon, hunf] at this
                        cases this
                      · omega
                  rw [hqf, if_neg (by simp)]
              simp only [if_true]
              refine ⟨H.ext.size, by show _ < (w.heap.push _).size; simp, ⟨us, ty, by show (w.heap.push _)[w.heap.size]? = _; simp, by rw [hcon]; exact q7 _⟩, fun y d hy hd hlt => ?_⟩
              rw [hy] at hol
              obtain rfl := Option.some.inj hol
              rw [hgetA, if_pos ⟨hd, by cases hdst : y.dst <;> simpa [Act.put, hdst] using hlt⟩]
            · have hl' := lset j hl hij
              exact keep _ _ (fun j => if j = i then w.heap.size else bk j) j z' hj hz hl' hij (if_neg hij) hb'.size (hb'.block _ (H.ghost.1 j z' hj hz hl').2.1) hmo (hgn j)
          · intro j j' hj hj' hz hz' hl hl' hbk
            have hold : ∀ k, k < n → (gz k).isSome = true → (listed.setIfInBounds i true).getD k false = true → k ≠ i → bk k < w.heap.size := fun k hk hz hl hij => by
              obtain ⟨z, hz⟩ := Option.isSome_iff_exists.1 hz
              exact (H.ghost.1 k z hk hz (lset k hl hij)).2.1
            by_cases hij : j = i <;> by_cases hij' : j' = i
            · rw [hij, hij']
            · simp only [hij, hij', if_true, if_false] at hbk
              have := hold j' hj' hz' hl' hij'
              omega
            · simp only [hij, hij', if_true, if_false] at hbk
              have := hold j hj hz hl hij
              omega
            · simp only [hij, hij', if_false] at hbk
              exact H.ghost.2 j j' hj hj' hz hz' (lset j hl hij) (lset j' hl' hij') hbk
        · -- the store into a new variable
          obtain ⟨q1, q2, ty, y, q3, q4, q5⟩ := gst_run hm1 hgs
          have hw : Region.wanted o (yielded l.toArray a.tmps) = true := by simp [Region.wanted, q1]
          have hopm : ∀ x ∈ o.op.operands, ∀ e, x = .tmp e → e ∈ o.looksAt l.toArray := fun x hx e he => by
            subst he
            exact List.mem_append_left _ (List.mem_filterMap.2 ⟨.tmp e, by simpa using hx, rfl⟩)
          have hd1 : d ∈ o.looksAt l.toArray := hopm (.tmp d) (by rw [q3]; simp [Op.operands]) d rfl
          have hki : k ≠ i := fun h => by subst h; rw [hnot] at hgk; cases hgk
          have hkl : listed.getD k false = true := by
            rcases hf.flow i k o ok d hin hk ho (getl.2 hok) hokd hd1 with h | ⟨_, e, he, hb, hon⟩ | ⟨h, _⟩
            · exact absurd h.symm hki
            · rw [← hon]; exact hall e he hb
            · have := (hst k i hgjk).1; omega
          obtain ⟨g1, g2, ⟨us, tt, g3, g4⟩, g5⟩ := H.ghost.1 k zk hk hgk hkl
          have hptr : a.eval (.tmp d) = .pointer (some ⟨bk k, 0, none⟩) := g5 ok d hok hokd (by rw [H.tsize, ← hlen]; exact hdl)
          have hval : Conc (Cg C gz bk n listed w) (ev (lexT l t xs i) b) (a.eval y) := cO_ev y b q5 fun e he => hlook e (hopm y (by rw [q3]; simp [Op.operands]) e he)
          obtain ⟨⟨v1, v2⟩, v3⟩ := hval.cells hat
          have hgc : gcon gj fc listed k zk = zk.cells := by
            unfold gcon
            rw [hgjk]
            simp only
            rw [hunf, if_neg (by simp)]
          have husz : us.size = sz := by have := g4.1; rw [hgc, hzl] at this; simpa using this.symm
          have hvsz : (a.eval y).cells.size = sz := by rw [← hlen']; simpa using v1.symm
          have hex := gst_exec (P := P) (w := w) q3 q4 hptr g3 husz hvsz v3
          have hbel : Below C.w.heap.size C.w (w.setRow (bk k) (a.eval y).cells) := H.ext.trans (below_setRow g1)
          have hXk : (Cg C gz bk n listed w).X (bk k) := .inr ⟨k, hk, hkl, by rw [hgk]; rfl, rfl⟩
          have hX : ∀ b', (Cg C gz bk n (listed.setIfInBounds i true) (w.setRow (bk k) (a.eval y).cells)).X b' → (Cg C gz bk n listed w).X b' := by
            rintro b' (hx | ⟨j, h1, h2, h3, h4⟩)
            · exact .inl hx
            · have hij : j ≠ i := fun h => by subst h; rw [hnot] at h3; cases h3
              exact .inr ⟨j, h1, lset j h2 hij, h3, h4⟩
          have hmo : Mo (Cg C gz bk n listed w) (Cg C gz bk n (listed.setIfInBounds i true) (w.setRow (bk k) (a.eval y).cells)) := by
            refine ⟨fun r ver b' o' e1 e2 => .inl ⟨e1, e2, fun m hm => ?_⟩, fun r cur e => ⟨cur, e, Nat.le_refl _⟩, fun b' off u e1 e2 e3 => ⟨?_, e1, fun h => e2 (hX b' h)⟩⟩
            · obtain ⟨vs, ty', e, hs⟩ := hm
              have hne : b' ≠ bk k := fun h => (hrw.X (bk k) hXk).2 ⟨r, o', by rw [← h]; exact e1⟩
              exact ⟨vs, ty', by show (w.setRow (bk k) _).heap[b']? = _; rw [setRow_other w (bk k) b' _ hne]; exact e, hs⟩
            · show (w.setRow (bk k) _).cell? _ = _
              rw [cell_setRow_other w (bk k) _ _ (fun h => e2 (by rw [show b' = bk k from h]; exact hXk))]
              exact e3
          unfold wpOp
          simp only [ho]
          rw [hw, if_pos rfl]
          refine .inl ?_
          unfold Oper.wp
          rw [hex]
          simp only [Oper.upon]
          have hput : a.put o.dst undef = a := by rw [q2]; rfl
          refine step .u undef (w.setRow (bk k) (a.eval y).cells) bk hbel (fun e he => by rw [q2] at he; cases he) hmo (.v _) ⟨?_, ?_⟩
          · intro j z' hj hz hl
            have hij : j ≠ i := fun h => by subst h; rw [hnot] at hz; cases hz
            have hl' := lset j hl hij
            by_cases hjk : j = k
            · subst hjk
              rw [hgk] at hz
              cases hz
              have hcon : gcon gj fc (listed.setIfInBounds i true) j zk = fc j := by
                unfold gcon
                rw [hgjk]
                simp only
                rw [if_pos (by simp [H.size, hil])]
              refine ⟨g1, by simpa using g2, ⟨_, tt, setRow_heap w (bk j) us _ tt (0, 0) g3, ?_⟩, ?_⟩
              · rw [hcon, hfc]
                exact ⟨v1, fun q c v h1 h2 => (v2 q c v h1 h2).mo hmo⟩
              · rw [hput]; exact g5
            · refine keep undef (w.setRow (bk k) (a.eval y).cells) bk j z' hj hz hl' hij rfl (by simp) ?_ hmo (fun h => hjk (hu j k i h hgjk))
              exact setRow_other w (bk k) (bk j) _ fun h => hjk (H.ghost.2 j k hj hk (by rw [hz]; rfl) (by rw [hgk]; rfl) hl' hkl h)
          · intro j j' hj hj' hz hz' hl hl' hbk
            have hij : j ≠ i := fun h => by subst h; rw [hnot] at hz; cases hz
            have hij' : j' ≠ i := fun h => by subst h; rw [hnot] at hz'; cases hz'
            exact H.ghost.2 j j' hj hj' hz hz' (lset j hl hij) (lset j' hl' hij') hbk
end
end Go.Proofs.Ytjgnjpbplnmdmaa
