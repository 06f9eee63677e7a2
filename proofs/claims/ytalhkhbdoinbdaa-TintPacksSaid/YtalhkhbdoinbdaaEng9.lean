/- A region that draws its order: one walk in the order of the text serves every order. -/
import Derived.Test.YtalhkhbdoinbdaaEng8
namespace Go.Proofs.Ytalhkhbdoinbdaa
open Go Go.RowKit

theorem waitsB_spec {o : Oper} {j : Nat} (h : waitsB o j = true) : ∃ e ∈ o.after, Region.binds .any e = true ∧ e.on = j := by
  unfold waitsB at h
  obtain ⟨e, he, hb⟩ := Array.any_eq_true'.1 h
  simp only [Bool.and_eq_true, beq_iff_eq] at hb
  exact ⟨e, he, hb.1, hb.2⟩

structure Flow (ops : Array Oper) (n : Nat) : Prop where
  early : ∀ (i : Nat) (o : Oper), ops[i]? = some o → ∀ e ∈ o.after, Region.binds .any e = true → e.on < i
  sel : ∀ (i : Nat) (o : Oper), ops[i]? = some o → ∀ cs b, o.op ≠ .select cs b
  tail : ∀ (i : Nat) (o : Oper), ops[i]? = some o → n ≤ i → ∀ j, j < i → ∃ e ∈ o.after, Region.binds .any e = true ∧ e.on = j
  flow : ∀ (i j : Nat) (x y : Oper) (t : Tmp), i < n → j < n → ops[i]? = some x → ops[j]? = some y → y.dst = some t → t ∈ x.looksAt ops →
    i = j ∨ (j < i ∧ ∃ e ∈ x.after, Region.binds .any e = true ∧ e.on = j) ∨ (i < j ∧ ∃ e ∈ y.after, Region.binds .any e = true ∧ e.on = i)
  uniq : ∀ (i j : Nat) (x y : Oper) (t : Tmp), i < n → j < n → ops[i]? = some x → ops[j]? = some y → x.dst = some t → y.dst = some t → i = j

theorem flow_of {ops : Array Oper} {n : Nat} (h : flowB ops n = true) : Flow ops n := by
  unfold flowB at h
  rw [Bool.and_eq_true, List.all_eq_true, List.all_eq_true] at h
  obtain ⟨h1, h2⟩ := h
  have lt : ∀ (i : Nat) (o : Oper), ops[i]? = some o → i ∈ List.range ops.size := fun i o ho => List.mem_range.2 (Array.getElem?_eq_some_iff.1 ho).1
  refine ⟨?_, ?_, ?_, ?_, ?_⟩
  · intro i o ho e he hb
    have := h1 i (lt i o ho)
    simp only [ho, Bool.and_eq_true, Array.all_eq_true_iff_forall_mem, Bool.or_eq_true, decide_eq_true_eq] at this
    rcases this.1.1 e he with h | h
    · simp [hb] at h
    · exact h
  · intro i o ho cs b hs
    have := h1 i (lt i o ho)
    simp [ho, hs] at this
  · intro i o ho hn j hj
    have := h1 i (lt i o ho)
    simp only [ho, Bool.and_eq_true, Bool.or_eq_true, decide_eq_true_eq, List.all_eq_true] at this
    rcases this.2 with h | h
    · omega
    · exact waitsB_spec (h j (List.mem_range.2 hj))
  · intro i j x y t hi hj hx hy ht hl
    have := h2 i (List.mem_range.2 hi)
    rw [List.all_eq_true] at this
    have := this j (List.mem_range.2 hj)
    simp only [hx, hy, ht, Bool.and_eq_true, Bool.or_eq_true, decide_eq_true_eq] at this
    rcases this.1 with ((h | h) | h) | h
    · simp [hl] at h
    · exact .inl h
    · exact .inr (.inl ⟨h.1, waitsB_spec h.2⟩)
    · exact .inr (.inr ⟨h.1, waitsB_spec h.2⟩)
  · intro i j x y t hi hj hx hy hxt hyt
    have := h2 i (List.mem_range.2 hi)
    rw [List.all_eq_true] at this
    have := this j (List.mem_range.2 hj)
    simp only [hx, hy, hyt, Bool.and_eq_true, Bool.or_eq_true, decide_eq_true_eq] at this
    rcases this.2 with h | h
    · exact h
    · simp [hxt] at h

theorem getD_ft {listed : Array Bool} {i : Nat} (hi : i < listed.size) : listed.getD i false = listed.getD i true := by simp [hi]

section
variable {P : Program} {cal : Callee} {l : List Oper} {Q : Exit → Act → World → Prop} {lim B : Nat} {h : List Row}

/-- Behind the first n: the others, one behind the other. -/
theorem tail_any {n : Nat} (hf : Flow l.toArray n) : ∀ (d k : Nat) (listed : Array Bool) (a : Act) (w : World), n ≤ k → k ≤ l.length → l.length - k = d → listed.size = l.length →
    (∀ j, j < k → listed.getD j false = true) → (∀ j, k ≤ j → j < l.length → listed.getD j true = false) → wpList P l.toArray Q (l.drop k) a w → wpAny P .any l.toArray Q d listed a w := by
  intro d
  induction d with
  | zero =>
    intro k listed a w hn hk hd hs h1 h2 h
    have hkl : k = l.length := by omega
    subst hkl
    rw [List.drop_length] at h
    refine ⟨?_, h⟩
    refine List.eq_nil_iff_forall_not_mem.2 fun j hj => ?_
    obtain ⟨hu, o, ho, _⟩ := mem_ready.1 hj
    have hlt : j < l.length := by simpa using (Array.getElem?_eq_some_iff.1 ho).1
    have := h1 j hlt
    rw [getD_ft (by omega), hu] at this
    cases this
  | succ d ih =>
    intro k listed a w hn hk hd hs h1 h2 h
    have hkl : k < l.length := by omega
    have hok : l.toArray[k]? = some l[k] := by simp [hkl]
    have hr : ∀ j, j ∈ Region.ready .any l.toArray listed → j = k := by
      intro j hj
      obtain ⟨hu, o, ho, hall⟩ := mem_ready.1 hj
      have hlt : j < l.length := by simpa using (Array.getElem?_eq_some_iff.1 ho).1
      rcases Nat.lt_trichotomy j k with hjk | hjk | hjk
      · have := h1 j hjk
        rw [getD_ft (by omega), hu] at this
        cases this
      · exact hjk
      · obtain ⟨e, he, hb, hon⟩ := hf.tail j o ho (by omega) k hjk
        have := hall e he hb
        rw [hon, getD_ft (by omega), h2 k (Nat.le_refl _) hkl] at this
        cases this
    have hkr : k ∈ Region.ready .any l.toArray listed := mem_ready.2 ⟨h2 k (Nat.le_refl _) hkl, _, hok, fun e he hb => h1 _ (hf.early k _ hok e he hb)⟩
    refine ⟨fun h0 => (by rw [h0] at hkr; cases hkr), fun i hi => ?_⟩
    obtain rfl := hr i hi
    have hdrop : l.drop i = l[i] :: l.drop (i + 1) := List.drop_eq_getElem_cons hkl
    rw [hdrop] at h
    have hw : wpOp P l.toArray Q i (wpList P l.toArray Q (l.drop (i + 1))) a w := by unfold wpOp; simp only [hok]; exact h
    refine wpOp_mono (fun a' w' h' => ih (i + 1) _ a' w' (by omega) (by omega) (by omega) (by simpa using hs) ?_ ?_ h') hw
    · intro j hj
      by_cases hji : j = i
      · subst hji; simp [hs, hkl]
      · exact getD_set_true (h1 j (by omega))
    · intro j hj hjl
      rw [getD_set_ne true (by omega)]
      exact h2 j (by omega) hjl

/-- How many are still to come. -/
def left (listed : Array Bool) : Nat := (listed.toList.filter (!·)).length

theorem left_set {listed : Array Bool} {i : Nat} (hi : i < listed.size) (h : listed.getD i true = false) : left (listed.setIfInBounds i true) + 1 = left listed := by
  unfold left
  have hl : i < listed.toList.length := by simpa using hi
  have hv : listed.toList[i] = false := by simpa [hi] using h
  rw [Array.toList_setIfInBounds]
  generalize listed.toList = L at *
  clear h hi listed
  induction L generalizing i with
  | nil => simp at hl
  | cons x L ih =>
    cases i with
    | zero => simp at hv; subst hv; simp
    | succ i =>
      have := ih (i := i) (by simpa using hl) (by simpa using hv)
      cases x <;> simp at * <;> omega

theorem getT_out : ∀ (t : List LV) (i : Nat), t.length ≤ i → getT t i = .bad
  | [], i, _ => by cases i <;> rfl
  | x :: t, 0, h => by simp at h
  | x :: t, i + 1, h => getT_out t i (by simpa using h)

theorem putD_get (d : Option Nat) (t : List LV) (x : LV) (i : Nat) : getT (putD d t x) i = if d = some i ∧ i < t.length then x else getT t i := by
  cases d with
  | none => simp [putD]
  | some d =>
    simp only [putD, getT_set, Option.some.injEq]
    by_cases h : d = i
    · subst h; rfl
    · simp [h]

theorem putD_length (d : Option Nat) (t : List LV) (x : LV) : (putD d t x).length = t.length := by
  cases d with
  | none => rfl
  | some d => exact setT_length t d x

/-- The temporaries behind the first i operations, in the order of the text. -/
def lexT (l : List Oper) (t : List LV) (xs : Nat → LV) : Nat → List LV
  | 0 => t
  | i + 1 => putD ((l[i]?).bind (·.dst)) (lexT l t xs i) (xs i)

theorem lexT_length (l : List Oper) (t : List LV) (xs : Nat → LV) : ∀ i, (lexT l t xs i).length = t.length
  | 0 => rfl
  | i + 1 => by unfold lexT; rw [putD_length]; exact lexT_length l t xs i

theorem lexT_none (l : List Oper) (t : List LV) (xs : Nat → LV) (d : Nat) : ∀ i, (∀ (j : Nat) (o : Oper), j < i → l[j]? = some o → o.dst ≠ some d) → getT (lexT l t xs i) d = getT t d
  | 0, _ => rfl
  | i + 1, h => by
    unfold lexT
    rw [putD_get, if_neg, lexT_none l t xs d i fun j o hj => h j o (by omega)]
    rintro ⟨hd, _⟩
    cases ho : l[i]? with
    | none => simp [ho] at hd
    | some o => simp [ho] at hd; exact h i o (by omega) ho hd

theorem lexT_some (l : List Oper) (t : List LV) (xs : Nat → LV) (d n j : Nat) (o : Oper) (ho : l[j]? = some o) (ht : o.dst = some d)
    (hu : ∀ (k : Nat) (x : Oper), k < n → l[k]? = some x → x.dst = some d → k = j) : ∀ i, j < i → i ≤ n → getT (lexT l t xs i) d = if d < t.length then xs j else .bad := by
  intro i
  induction i with
  | zero => intro h; omega
  | succ i ih =>
    intro hji hin
    unfold lexT
    rw [putD_get, lexT_length]
    by_cases hj : i = j
    · subst hj
      simp only [ho, Option.bind_some, ht, true_and]
      by_cases hs : d < t.length
      · rw [if_pos hs, if_pos hs]
      · rw [if_neg hs, if_neg hs]
        exact getT_out _ _ (by rw [lexT_length]; omega)
    · rw [if_neg, ih (by omega) (by omega)]
      rintro ⟨hd, _⟩
      cases hx : l[i]? with
      | none => simp [hx] at hd
      | some x => simp [hx] at hd; exact hj (hu i x (by omega) hx hd)

/-- The frame, of which some operations among the first n have come up. -/
structure Half (l : List Oper) (n : Nat) (A : Act) (C : Cx) (t : List LV) (xs : Nat → LV) (listed : Array Bool) (a : Act) (w : World) : Prop where
  size : listed.size = l.length
  closed : ∀ (j : Nat) (o : Oper), l[j]? = some o → listed.getD j false = true → ∀ e ∈ o.after, Region.binds .any e = true → listed.getD e.on false = true
  tail : ∀ d, n ≤ d → d < l.length → listed.getD d true = false
  defers : a.defers = A.defers
  tsize : a.tmps.size = A.tmps.size
  ext : Below C.w.heap.size C.w w
  done : ∀ (i : Nat) (o : Oper) (d : Tmp), i < n → l[i]? = some o → o.dst = some d → listed.getD i false = true → Conc { C with w := w } (getT (lexT l t xs n) d) (a.tmps.getD d undef)
  wait : ∀ (d : Tmp), (∀ (i : Nat) (o : Oper), i < n → l[i]? = some o → o.dst = some d → listed.getD i false = false) → Conc { C with w := w } (getT t d) (a.tmps.getD d undef)

/-- What is known behind the first n operations. -/
theorem Half.full {n : Nat} {A : Act} {C : Cx} {t : List LV} {xs : Nat → LV} {listed : Array Bool} {a : Act} {w : World} (H : Half l n A C t xs listed a w) (hall : ∀ j, j < n → listed.getD j false = true) (hlen : t.length = A.tmps.size) :
    TmpR { C with w := w } (lexT l t xs n) a := by
  refine ⟨by rw [lexT_length, hlen, H.tsize], fun d => ?_⟩
  by_cases hw : ∃ (i : Nat) (o : Oper), i < n ∧ l[i]? = some o ∧ o.dst = some d
  · obtain ⟨i, o, hi, ho, hd⟩ := hw
    exact H.done i o d hi ho hd (hall i hi)
  · have hno : ∀ (i : Nat) (o : Oper), i < n → l[i]? = some o → o.dst ≠ some d := fun i o hi ho hd => hw ⟨i, o, hi, ho, hd⟩
    rw [lexT_none l t xs d n hno]
    exact H.wait d fun i o hi ho hd => absurd hd (hno i o hi ho)

theorem head_any (hcal : CalOK P cal) {n : Nat} {A : Act} {C : Cx} {t : List LV} {xs : Nat → LV} (hn : n ≤ l.length) (hf : Flow l.toArray n) (hr : Rel C B h) (hlen : t.length = A.tmps.size)
    (hm : ∀ (i : Nat) (o : Oper), i < n → l[i]? = some o → ∃ m, cI P l.toArray o = some m ∧ quietOp m.op = true ∧ evMI cal true lim m (lexT l t xs i, h) = some (lexT l t xs (i + 1), h))
    (hxs : ∀ (i : Nat) (o : Oper) x, i < n → l[i]? = some o → lexT l t xs (i + 1) = putD o.dst (lexT l t xs i) x → ∀ d, o.dst = some d → d < t.length → xs i = x)
    (hQ : ∀ a w, Below C.w.heap.size C.w w → TmpR { C with w := w } (lexT l t xs n) a → a.defers = A.defers → wpList P l.toArray Q (l.drop n) a w) :
    ∀ (f : Nat) (listed : Array Bool) (a : Act) (w : World), f = left listed → Half l n A C t xs listed a w → wpAny P .any l.toArray Q f listed a w := by
  have getl : ∀ {i : Nat} {o : Oper}, l.toArray[i]? = some o ↔ l[i]? = some o := by intro i o; simp
  intro f
  induction f with
  | zero =>
    intro listed a w hf0 H
    have hall : ∀ j, j < l.length → listed.getD j false = true := by
      intro j hj
      cases hv : listed.getD j false with
      | true => rfl
      | false =>
        have := left_set (i := j) (by rw [H.size]; exact hj) (by rw [← getD_ft (by rw [H.size]; exact hj)]; exact hv)
        omega
    have hnl : n = l.length := by
      rcases Nat.lt_or_ge n l.length with h | h
      · have := H.tail n (Nat.le_refl _) h
        rw [← getD_ft (by rw [H.size]; exact h), hall n h] at this
        cases this
      · omega
    exact tail_any (Q := Q) hf 0 n listed _ w (Nat.le_refl _) (by omega) (by omega) H.size (fun j hj => hall j (by omega)) (fun j hj hjl => by omega)
      (hQ a w H.ext (H.full (fun j hj => hall j (by omega)) hlen) H.defers)
  | succ f ih =>
    intro listed a w hfl H
    by_cases hhead : ∀ j, j < n → listed.getD j false = true
    · have hcount : left listed = l.length - n := by
        unfold left
        have e : listed.toList = List.replicate n true ++ List.replicate (l.length - n) false := by
          refine List.ext_getElem (by simp [H.size]; omega) fun i h1 h2 => ?_
          have hi : i < listed.size := by simpa using h1
          rw [List.getElem_append]
          by_cases hin : i < n
          · have := hhead i hin
            simp [hin]
            simpa [hi] using this
          · have := H.tail i (by omega) (by rw [← H.size]; exact hi)
            simp [hin]
            simpa [hi] using this
        rw [e]
        simp
      rw [show f + 1 = l.length - n by omega]
      exact tail_any (Q := Q) hf _ n listed _ w (Nat.le_refl _) hn rfl H.size hhead H.tail (hQ a w H.ext (H.full hhead hlen) H.defers)
    · have hex : ∃ j, j < n ∧ listed.getD j false = false := by
        refine Classical.byContradiction fun hno => hhead fun j hj => ?_
        cases hv : listed.getD j false with
        | true => rfl
        | false => exact absurd ⟨j, hj, hv⟩ hno
      refine ⟨fun h0 => ?_, fun i hi => ?_⟩
      · exfalso
        obtain ⟨j, hj, hjv⟩ := hex
        have : ∀ m, ∀ j, j < m → j < n → listed.getD j false = false → False := by
          intro m
          induction m with
          | zero => intro j hj; omega
          | succ m ihm =>
            intro j hjm hjn hjv
            have hjl : j < l.length := by omega
            have hr : j ∈ Region.ready .any l.toArray listed := by
              refine mem_ready.2 ⟨by rw [← getD_ft (by rw [H.size]; exact hjl)]; exact hjv, l[j], by simp [hjl], fun e he hb => ?_⟩
              have hlt := hf.early j l[j] (by simp [hjl]) e he hb
              cases hv : listed.getD e.on false with
              | true => rfl
              | false => exact (ihm e.on (by omega) (by omega) hv).elim
            rw [h0] at hr
            cases hr
        exact this (j + 1) j (by omega) hj hjv
      · obtain ⟨hun, o, ho, hall⟩ := mem_ready.1 hi
        have hil : i < l.length := by simpa using (Array.getElem?_eq_some_iff.1 ho).1
        have hin : i < n := by
          rcases Nat.lt_or_ge i n with h | h
          · exact h
          · obtain ⟨j, hj, hjv⟩ := hex
            obtain ⟨e, he, hb, hon⟩ := hf.tail i o ho h j (by omega)
            have := hall e he hb
            rw [hon, hjv] at this
            cases this
        have hol := getl.1 ho
        have hunf : listed.getD i false = false := by rw [getD_ft (by rw [H.size]; exact hil)]; exact hun
        -- what it looks at stands for what it does in the order of the text
        have hlook : ∀ d ∈ o.looksAt l.toArray, Conc { C with w := w } (getT (lexT l t xs i) d) (a.tmps.getD d undef) := by
          intro d hd'
          by_cases hw : ∃ (j : Nat) (y : Oper), j < n ∧ l[j]? = some y ∧ y.dst = some d
          · obtain ⟨j, y, hj, hy, hd⟩ := hw
            have huq : ∀ (k : Nat) (x : Oper), k < n → l[k]? = some x → x.dst = some d → k = j := fun k x hk hx hxt => hf.uniq k j x y d hk hj (getl.2 hx) (getl.2 hy) hxt hd
            have late : i ≤ j → listed.getD j false = false → Conc { C with w := w } (getT (lexT l t xs i) d) (a.tmps.getD d undef) := by
              intro hij hjf
              rw [lexT_none l t xs d i fun k x hk hx hxt => by have := huq k x (by omega) hx hxt; omega]
              exact H.wait d fun k x hk hx hxt => by rw [huq k x hk hx hxt]; exact hjf
            rcases hf.flow i j o y d hin hj ho (getl.2 hy) hd hd' with h | ⟨h, e, he, hb, hon⟩ | ⟨h, e, he, hb, hon⟩
            · subst h; exact late (Nat.le_refl _) hunf
            · have hjl : listed.getD j false = true := by rw [← hon]; exact hall e he hb
              have := H.done j y d hj hy hd hjl
              rw [lexT_some l t xs d n j y hy hd huq n hj (Nat.le_refl _)] at this
              rw [lexT_some l t xs d n j y hy hd huq i h (by omega)]
              exact this
            · refine late (by omega) ?_
              cases hv : listed.getD j false with
              | false => rfl
              | true =>
                have := H.closed j y hy hv e he hb
                rw [hon, hunf] at this
                cases this
          · have hno : ∀ (k : Nat) (x : Oper), k < n → l[k]? = some x → x.dst ≠ some d := fun k x hk hx hd => hw ⟨k, x, hk, hx, hd⟩
            rw [lexT_none l t xs d i fun k x hk hx => hno k x (by omega) hx]
            exact H.wait d fun k x hk hx hxt => absurd hxt (hno k x hk hx)
        obtain ⟨m, hm1, hm2, hm3⟩ := hm i o hin hol
        have hrw : Rel { C with w := w } B h := Rel.grow hr H.ext
        obtain ⟨x, hx1, hx2⟩ := mi_any (C := { C with w := w }) (B := B) (quiet := true) hcal hm1 (fun _ => hm2) hlook hrw hm3
        have hxi := hxs i o x hin hol hx1
        -- the half behind it
        have next : ∀ u w', Below w.heap.size w w' → Conc { C with w := w' } x u → wpAny P .any l.toArray Q f (listed.setIfInBounds i true) (a.put o.dst u) w' := by
          intro u w' hb' hcu
          have hle : Le B { C with w := w } { C with w := w' } := Le.grow (C := { C with w := w }) (Nat.le_trans hr.size H.ext.size) hb'
          have hget : ∀ d, (a.put o.dst u).tmps.getD d undef = if o.dst = some d ∧ d < a.tmps.size then u else a.tmps.getD d undef := by
            intro d
            cases hdst : o.dst with
            | none => simp [Act.put]
            | some d' =>
              simp only [Act.put, Option.some.injEq]
              by_cases h : d' = d
              · subst h
                by_cases hs : d' < a.tmps.size
                · simp [hs]
                · simp [hs]
              · rw [if_neg (fun hh => h hh.1)]
                simp [Array.getElem?_setIfInBounds_ne h]
          refine ih _ _ w' (by have := left_set (by rw [H.size]; exact hil) hun; omega) ⟨by simpa using H.size, ?_, ?_, ?_, ?_, ?_, ?_, ?_⟩
          · intro j y hy hl e he' hb
            by_cases hij : j = i
            · subst hij
              rw [hy] at hol
              obtain rfl := Option.some.inj hol
              exact getD_set_true (hall e he' hb)
            · rw [getD_set_ne false (fun h => hij h.symm)] at hl
              exact getD_set_true (H.closed j y hy hl e he' hb)
          · intro d hd hdl
            rw [getD_set_ne true (by omega)]
            exact H.tail d hd hdl
          · rw [put_defers]; exact H.defers
          · cases hdst : o.dst <;> simp [Act.put, H.tsize]
          · exact H.ext.trans (hb'.mono H.ext.size)
          · intro j y d hj hy hd hl
            rw [hget]
            by_cases hij : j = i
            · subst hij
              rw [hy] at hol
              obtain rfl := Option.some.inj hol
              have huq : ∀ (k : Nat) (x : Oper), k < n → l[k]? = some x → x.dst = some d → k = j := fun k x hk hx hxt => hf.uniq k j x y d hk hj (getl.2 hx) (getl.2 hy) hxt hd
              rw [lexT_some l t xs d n j y hy hd huq n hj (Nat.le_refl _)]
              by_cases hs : d < t.length
              · rw [if_pos hs, if_pos ⟨hd, by rw [H.tsize, ← hlen]; exact hs⟩, hxi d hd hs]
                exact hcu
              · rw [if_neg hs]; exact .bad _
            · rw [getD_set_ne false (fun h => hij h.symm)] at hl
              rw [if_neg]
              · exact (H.done j y d hj hy hd hl).mono hle
              · rintro ⟨hdo, _⟩
                exact hij (hf.uniq j i y o d hj hin (getl.2 hy) ho hd hdo)
          · intro d hno
            have hdo : o.dst ≠ some d := fun hd => by
              have := hno i o hin hol hd
              rw [show (listed.setIfInBounds i true).getD i false = true by simp [H.size, hil]] at this
              cases this
            rw [hget, if_neg (fun h => hdo h.1)]
            refine (H.wait d fun j y hj hy hd => ?_).mono hle
            have hij : i ≠ j := fun h => by
              subst h
              rw [hy] at hol
              obtain rfl := Option.some.inj hol
              exact hdo hd
            have := hno j y hj hy hd
            rwa [getD_set_ne false hij] at this
        unfold wpOp
        simp only [ho]
        rcases hx2 with ⟨hw, hdn⟩ | ⟨hw, hxu, _⟩
        · rw [hw, if_pos rfl]
          refine .inl (done_wp hdn fun u w' hp => ?_)
          obtain ⟨C', rfl, c1, c2, c3, c4, c5⟩ := hp
          obtain ⟨_, d1, d2, d3⟩ := c5 rfl
          refine next u C'.w d3 ?_
          have hX : C'.X = C.X := c3.X
          have hC' : C' = { C with w := C'.w } := by
            cases C'
            simp only at d1 d2 hX ⊢
            subst d1; subst d2; subst hX
            rfl
          rw [hC'] at c1
          exact c1
        · rw [hw, if_neg (by simp)]
          exact next undef w (Below.refl _ _) (by rw [hxu]; exact .v _)
end
end Go.Proofs.Ytalhkhbdoinbdaa
