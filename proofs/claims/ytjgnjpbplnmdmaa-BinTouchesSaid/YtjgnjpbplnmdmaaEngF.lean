/- What the walk through a head in the order of the text tells of each operation. -/
import Derived.Test.YtjgnjpbplnmdmaaEngE
namespace Go.Proofs.Ytjgnjpbplnmdmaa
open Go Go.RowKit

theorem clsL_snd (ops : Array Oper) (pf : List FuncId) (sr : Bool) : ∀ (l : List MI) (i : Nat) (dirty : List Nat) (r : Nat), (clsL ops pf sr i dirty r l).map Prod.snd = l
  | [], _, _, _ => rfl
  | m :: l, i, dirty, r => by
    simp only [clsL]
    by_cases h1 : (quietOp m.op && !(sr && isCallM m) && !(dirtyB ops i dirty && rdM m)) = true
    · rw [if_pos h1, List.map_cons, clsL_snd ops pf sr l]
    · rw [if_neg h1]
      split
      · rw [List.map_cons, clsL_snd ops pf sr l]
      · rw [List.map_cons, clsL_snd ops pf sr l]

theorem okCls_p {ops : Array Oper} {hd : List (Cls × MI)} (h : okCls ops hd = true) {j : Nat} {m : MI} (hj : hd[j]? = some (.p, m)) : quietOp m.op = true := by
  have := List.all_eq_true.1 h j (List.mem_range.2 (List.getElem?_eq_some_iff.1 hj).1)
  rw [hj] at this; exact this
theorem okCls_m {ops : Array Oper} {hd : List (Cls × MI)} (h : okCls ops hd = true) {j r : Nat} {m : MI} (hj : hd[j]? = some (.m r, m)) : r < cntM hd ∧ (∀ i w m', i < j → hd[i]? ≠ some (.r w, m') ∧ hd[i]? ≠ some (.q w, m')) ∧ ∀ i r' m', i < j → hd[i]? = some (.m r', m') → r' ≠ r := by
  have := List.all_eq_true.1 h j (List.mem_range.2 (List.getElem?_eq_some_iff.1 hj).1)
  rw [hj] at this
  simp only [Bool.and_eq_true, decide_eq_true_eq, List.all_eq_true, List.mem_range] at this
  refine ⟨this.1, fun i w m' hi => ⟨fun he => ?_, fun he => ?_⟩, fun i r' m' hi he => ?_⟩
  · have := this.2 i hi
    rw [he] at this; cases this
  · have := this.2 i hi
    rw [he] at this; cases this
  · have := this.2 i hi
    rw [he] at this; simpa using this
theorem okCls_r {ops : Array Oper} {hd : List (Cls × MI)} (h : okCls ops hd = true) {j : Nat} {w : List Nat} {c : Cls} {m : MI} (hc : c = .r w ∨ c = .q w) (hj : hd[j]? = some (c, m)) : (∀ i ∈ w, i ∈ reach ops j) ∧ ∀ i w' c' m', i < j → (c' = .r w' ∨ c' = .q w') → hd[i]? = some (c', m') → i ∈ w := by
  have := List.all_eq_true.1 h j (List.mem_range.2 (List.getElem?_eq_some_iff.1 hj).1)
  rw [hj] at this
  rcases hc with rfl | rfl
  · simp only [Bool.and_eq_true, List.all_eq_true, List.mem_range] at this
    refine ⟨fun i hi => by simpa using this.1 i hi, fun i w' c' m' hi hc' he => ?_⟩
    have := this.2 i hi
    rw [he] at this
    rcases hc' with rfl | rfl <;> exact memN_spec.1 this
  · simp only [Bool.and_eq_true, List.all_eq_true, List.mem_range] at this
    refine ⟨fun i hi => by simpa using this.1.2 i hi, fun i w' c' m' hi hc' he => ?_⟩
    have := this.2 i hi
    rw [he] at this
    rcases hc' with rfl | rfl <;> exact memN_spec.1 this
theorem okCls_q {ops : Array Oper} {hd : List (Cls × MI)} (h : okCls ops hd = true) {j : Nat} {w : List Nat} {m : MI} (hj : hd[j]? = some (.q w, m)) : quietOp m.op = true := by
  have := List.all_eq_true.1 h j (List.mem_range.2 (List.getElem?_eq_some_iff.1 hj).1)
  rw [hj] at this
  simp only [Bool.and_eq_true] at this
  exact this.1.1

section
variable {P : Program} {cal : Callee} {lim : Nat} {h0 : List Row}

theorem evMI_putC {m : MI} {o : Oper} {ops : Array Oper} {q : Bool} {t t' : List LV} {h h' : List Row} (hm : cI P ops o = some m) (he : evMI cal q lim m (t, h) = some (t', h')) : ∃ x, t' = putD o.dst t x := by
  rw [← cI_dst' hm]
  simp only [evMI] at he
  split at he
  · split at he
    · rename_i x h'' _
      simp only [Option.some.injEq, Prod.mk.injEq] at he
      exact ⟨x, he.1.symm⟩
    · simp at he
  · simp only [Option.some.injEq, Prod.mk.injEq] at he
    exact ⟨_, he.1.symm⟩
  · simp at he

/-- What is told of the i-th operation. -/
def Told (P : Program) (cal : Callee) (lim : Nat) (h0 : List Row) (ops : Array Oper) (i0 i : Nat) (o : Oper) (hd : List (Cls × MI)) (T : Nat → List LV) (hs : Nat → List Row) (rs : LogR) (mu : LogM) : Prop :=
  ∃ c m, hd[i]? = some (c, m) ∧ cI P ops o = some m ∧ match c with
    | .p => (∃ h1, evMI cal true lim m (T i, h0) = some (T (i + 1), h1)) ∧ hs (i + 1) = hs i ∧ ∃ ks, rdsMI m.op (T i) = some ks ∧ (i0 + i, ks) ∈ rs
    | .m r => evMk h0.length r m (T i, hs i) = some (T (i + 1), hs (i + 1)) ∧ (i0 + i, [h0.length + r]) ∈ rs
    | .r w => evMI cal false lim m (T i, hs i) = some (T (i + 1), hs (i + 1)) ∧ (w, mutsMI cal (hs i) m.op (T i), hs i, hs (i + 1)) ∈ mu
    | .q _ => (∃ h1, evMI cal true lim m (T i, hs i) = some (T (i + 1), h1)) ∧ hs (i + 1) = hs i

theorem headM_trace {ops : Array Oper} : ∀ (ls : List Oper) (hd : List (Cls × MI)) (i0 : Nat) (t : List LV) (h : List Row) (s : St) (rs : LogR) (mu : LogM), mapO (cI P ops) ls = some (hd.map Prod.snd) → evHM cal lim h0 i0 hd (t, h) = some (s, rs, mu) →
    ∃ (xs : Nat → LV) (hs : Nat → List Row), s = (lexT ls t xs ls.length, hs ls.length) ∧ hs 0 = h ∧ ∀ (i : Nat) (o : Oper), ls[i]? = some o → Told P cal lim h0 ops i0 i o hd (lexT ls t xs) hs rs mu
  | [], hd, i0, t, h, s, rs, mu, hm, he => by
    simp [mapO] at hm
    have : hd = [] := by cases hd with | nil => rfl | cons _ _ => simp at hm
    subst this
    simp only [evHM, Option.some.injEq, Prod.mk.injEq] at he
    obtain ⟨rfl, rfl, rfl⟩ := he
    exact ⟨fun _ => .bad, fun _ => h, rfl, rfl, fun i o ho => by simp at ho⟩
  | o :: ls, hd, i0, t, h, s, rs, mu, hm, he => by
    unfold mapO at hm
    split at hm
    · rename_i m ms h1 h2
      simp only [Option.some.injEq] at hm
      match hd, hm with
      | (c, m') :: hd, hm =>
        simp only [List.map_cons, List.cons.injEq] at hm
        obtain ⟨rfl, hms⟩ := hm
        subst hms
        have fin : ∀ (x : LV) (t' : List LV) (h' : List Row) (rs' : LogR) (mu' : LogM), t' = putD o.dst t x → evHM cal lim h0 (i0 + 1) hd (t', h') = some (s, rs', mu') → (∀ y ∈ rs', y ∈ rs) → (∀ y ∈ mu', y ∈ mu) →
            (match c with
              | .p => (∃ h1, evMI cal true lim m (t, h0) = some (t', h1)) ∧ h' = h ∧ ∃ ks, rdsMI m.op t = some ks ∧ (i0, ks) ∈ rs
              | .m r => evMk h0.length r m (t, h) = some (t', h') ∧ (i0, [h0.length + r]) ∈ rs
              | .r w => evMI cal false lim m (t, h) = some (t', h') ∧ (w, mutsMI cal h m.op t, h, h') ∈ mu
              | .q _ => (∃ h1, evMI cal true lim m (t, h) = some (t', h1)) ∧ h' = h) →
            ∃ (xs : Nat → LV) (hs : Nat → List Row), s = (lexT (o :: ls) t xs (o :: ls).length, hs (o :: ls).length) ∧ hs 0 = h ∧ ∀ (i : Nat) (o' : Oper), (o :: ls)[i]? = some o' → Told P cal lim h0 ops i0 i o' ((c, m) :: hd) (lexT (o :: ls) t xs) hs rs mu := by
          intro x t' h' rs' mu' ht he' hrs hmu hfirst
          obtain ⟨xs, hs, e1, e2, e3⟩ := headM_trace ls hd (i0 + 1) t' h' s rs' mu' h2 he'
          let xs' : Nat → LV := fun i => match i with | 0 => x | i + 1 => xs i
          let hs' : Nat → List Row := fun i => match i with | 0 => h | i + 1 => hs i
          have hlex : ∀ i, lexT (o :: ls) t xs' (i + 1) = lexT ls t' xs i := by
            intro i
            induction i with
            | zero => show putD _ _ _ = _; rw [ht]; rfl
            | succ i ih =>
              show putD _ (lexT (o :: ls) t xs' (i + 1)) (xs' (i + 1)) = putD _ (lexT ls t' xs i) (xs i)
              rw [ih]
              rfl
          refine ⟨xs', hs', ?_, rfl, fun i o' ho => ?_⟩
          · rw [e1]
            simp only [List.length_cons, hlex]
            rfl
          · cases i with
            | zero =>
              simp only [List.getElem?_cons_zero, Option.some.injEq] at ho
              subst ho
              refine ⟨c, m, rfl, h1, ?_⟩
              have h01 : lexT (o :: ls) t xs' (0 + 1) = t' := by rw [hlex]; rfl
              cases c with
              | p =>
                obtain ⟨⟨hh, g1⟩, g2, ks, g3, g4⟩ := hfirst
                exact ⟨⟨hh, by rw [h01]; exact g1⟩, by show hs 0 = h; rw [e2, g2], ks, g3, by simpa using g4⟩
              | m r =>
                obtain ⟨g1, g2⟩ := hfirst
                refine ⟨?_, by simpa using g2⟩
                rw [h01]; show evMk _ _ _ (t, h) = some (t', hs 0); rw [e2]; exact g1
              | r w =>
                obtain ⟨g1, g2⟩ := hfirst
                refine ⟨?_, ?_⟩
                · rw [h01]; show evMI _ _ _ _ (t, h) = some (t', hs 0); rw [e2]; exact g1
                · show (w, mutsMI cal h m.op t, h, hs 0) ∈ mu; rw [e2]; exact g2
              | q w =>
                obtain ⟨⟨hh, g1⟩, g2⟩ := hfirst
                exact ⟨⟨hh, by rw [h01]; exact g1⟩, by show hs 0 = h; rw [e2, g2]⟩
            | succ i =>
              simp only [List.getElem?_cons_succ] at ho
              obtain ⟨c', m', f1, f2, f3⟩ := e3 i o' ho
              refine ⟨c', m', by simpa using f1, f2, ?_⟩
              have ei : i0 + 1 + i = i0 + (i + 1) := by omega
              cases c' with
              | p =>
                obtain ⟨⟨hh, g1⟩, g2, ks, g3, g4⟩ := f3
                exact ⟨⟨hh, by rw [hlex, hlex]; exact g1⟩, g2, ks, by rw [hlex]; exact g3, by rw [← ei]; exact hrs _ g4⟩
              | m r =>
                obtain ⟨g1, g2⟩ := f3
                exact ⟨by rw [hlex, hlex]; exact g1, by rw [← ei]; exact hrs _ g2⟩
              | r w =>
                obtain ⟨g1, g2⟩ := f3
                exact ⟨by rw [hlex, hlex]; exact g1, by rw [hlex]; exact hmu _ g2⟩
              | q w =>
                obtain ⟨⟨hh, g1⟩, g2⟩ := f3
                exact ⟨⟨hh, by rw [hlex, hlex]; exact g1⟩, g2⟩
        cases c with
        | p =>
          simp only [evHM] at he
          split at he
          · rename_i s' hs'
            obtain ⟨t', hh⟩ := s'
            split at he
            · rename_i ks hks
              split at he
              · rename_i z rs' mu' hz
                simp only [Option.some.injEq, Prod.mk.injEq] at he
                obtain ⟨rfl, rfl, rfl⟩ := he
                obtain ⟨x, hx⟩ := evMI_putC h1 hs'
                exact fin x t' h rs' mu' hx hz (fun y hy => List.mem_cons_of_mem _ hy) (fun y hy => hy) ⟨⟨hh, hs'⟩, rfl, ks, hks, List.mem_cons_self ..⟩
              · simp at he
            · simp at he
          · simp at he
        | m r =>
          simp only [evHM] at he
          split at he
          · rename_i s' hs'
            obtain ⟨t', h'⟩ := s'
            split at he
            · rename_i z rs' mu' hz
              simp only [Option.some.injEq, Prod.mk.injEq] at he
              obtain ⟨rfl, rfl, rfl⟩ := he
              have hx : ∃ x, t' = putD o.dst t x := by
                rw [← cI_dst' h1]
                unfold evMk at hs'
                split at hs'
                · rename_i d a b z' esz by'
                  split at hs'
                  · split at hs'
                    · simp only [Option.some.injEq, Prod.mk.injEq] at hs'
                      exact ⟨_, hs'.1.symm⟩
                    · simp at hs'
                  · simp at hs'
                · simp at hs'
              obtain ⟨x, hx⟩ := hx
              exact fin x t' h' rs' mu' hx hz (fun y hy => List.mem_cons_of_mem _ hy) (fun y hy => hy) ⟨hs', List.mem_cons_self ..⟩
            · simp at he
          · simp at he
        | r w =>
          simp only [evHM] at he
          split at he
          · rename_i s' hs'
            obtain ⟨t', h'⟩ := s'
            split at he
            · rename_i z rs' mu' hz
              simp only [Option.some.injEq, Prod.mk.injEq] at he
              obtain ⟨rfl, rfl, rfl⟩ := he
              obtain ⟨x, hx⟩ := evMI_putC h1 hs'
              exact fin x t' h' rs' mu' hx hz (fun y hy => hy) (fun y hy => List.mem_cons_of_mem _ hy) ⟨hs', List.mem_cons_self ..⟩
            · simp at he
          · simp at he
        | q w =>
          simp only [evHM] at he
          split at he
          · rename_i s' hs'
            obtain ⟨t', hh⟩ := s'
            obtain ⟨x, hx⟩ := evMI_putC h1 hs'
            exact fin x t' h rs mu hx he (fun y hy => hy) (fun y hy => hy) ⟨⟨hh, hs'⟩, rfl⟩
          · simp at he
    · simp at hm
end

theorem evMk_spec {n0 r : Nat} {m : MI} {t t' : List LV} {h h' : List Row} (he : evMk n0 r m (t, h) = some (t', h')) : ∃ (d : Nat) (x y : MO) (z : List LV) (esz bytes : Nat) (k1 k2 : IntKind) (c : Int), m = ⟨some d, .mks x y z esz bytes, none⟩ ∧ ev t x = .v (.int k1 c) ∧ ev t y = .v (.int k2 c) ∧ 0 ≤ c ∧ c ≤ 9223372036854775807 ∧ c.toNat * bytes ≤ 140737488355328 ∧
    t' = setT t d (.sl (n0 + r) 0 0 c.toNat esz c.toNat) ∧ h' = h.set (n0 + r) ⟨0, repC z c.toNat⟩ := by
  unfold evMk at he
  split at he
  · rename_i d x y z esz bytes
    split at he
    · rename_i k1 c k2 c' h1 h2
      split at he
      · rename_i hc
        obtain ⟨rfl, c1, c2, c3⟩ := hc
        simp only [Option.some.injEq, Prod.mk.injEq] at he
        exact ⟨d, x, y, z, esz, bytes, k1, k2, c, rfl, h1, h2, c1, c2, c3, he.1.symm, he.2.symm⟩
      · simp at he
    · simp at he
  · simp at he

/-- Rows that are not there yet. -/
def Cx.reserve (C : Cx) (n : Nat) (w : World) : Cx := ⟨C.ρ ++ List.replicate n none, C.vs ++ List.replicate n 0, C.X, w⟩

theorem reserve_get {C : Cx} {n : Nat} {w : World} {k : Nat} {x : Nat × Nat} (h : (C.reserve n w).ρ[k]? = some (some x)) : C.ρ[k]? = some (some x) := by
  have e : (C.ρ ++ List.replicate n none)[k]? = some (some x) := h
  rw [List.getElem?_append] at e
  split at e
  · exact e
  · have := List.mem_of_getElem? e
    simp at this

theorem reserve_le {lim B : Nat} {C : Cx} {h : List Row} {n : Nat} {w : World} (hr : Rel C B h) (hb : Below C.w.heap.size C.w w) : Le B C (C.reserve n w) ∧ Fr lim C (C.reserve n w) := by
  have hle := Le.grow hr.size hb
  have hg : ∀ (k : Nat) x, C.ρ[k]? = some x → (C.reserve n w).ρ[k]? = some x := fun k x hk => by
    show (C.ρ ++ _)[k]? = _
    rw [List.getElem?_append_left (List.getElem?_eq_some_iff.1 hk).1]; exact hk
  have hv : ∀ (k : Nat) x, C.vs[k]? = some x → (C.reserve n w).vs[k]? = some x := fun k x hk => by
    show (C.vs ++ _)[k]? = _
    rw [List.getElem?_append_left (List.getElem?_eq_some_iff.1 hk).1]; exact hk
  refine ⟨⟨rfl, fun k ver b o e1 e2 => ?_, fun k cur e => ⟨cur, hv _ _ e, Nat.le_refl _⟩, fun b off u e1 e2 e3 => ?_, hle.below, fun k e => hg _ _ e⟩, ⟨fun b hlt _ => hb.block b hlt, fun k b o e1 e2 _ => ⟨k, o, e1, reserve_get e2⟩, hb.size⟩⟩
  · rcases hle.cur k ver b o e1 e2 with ⟨x1, x2, x3⟩ | ⟨cur, x1, x2⟩
    · exact .inl ⟨hg _ _ e1, hv _ _ e2, x3⟩
    · exact .inr ⟨cur, hv _ _ x1, x2⟩
  · obtain ⟨x1, x2⟩ := hle.cell b off u e1 e2 e3
    exact ⟨x1, fun ⟨k, o, e⟩ => x2 ⟨k, o, reserve_get e⟩⟩

theorem reserve_rel {B : Nat} {C : Cx} {h h' : List Row} {n : Nat} {w : World} (hr : Rel C B h) (hb : Below C.w.heap.size C.w w) (hlen : h'.length = h.length + n) (hver : h'.map Row.ver = h.map Row.ver ++ List.replicate n 0) (hrow : ∀ k, k < h.length → h'[k]? = h[k]?) : Rel (C.reserve n w) B h' := by
  have hg := hr.grow hb
  obtain ⟨hle, _⟩ := reserve_le (lim := 0) (n := n) hr hb
  have hmo : Mo { C with w := w } (C.reserve n w) := (reserve_le (lim := 0) (n := n) (w := w) hg (Below.refl _ _)).1.mo
  refine ⟨by show (C.ρ ++ _).length = _; simp [hr.len, hlen], by show C.vs ++ _ = _; rw [hver, hr.vs], fun k k' b o o' e1 e2 => hr.inj k k' b o o' (reserve_get e1) (reserve_get e2), fun k b o r e1 e2 => ?_, fun b hx => ⟨(hg.X b hx).1, fun ⟨k, o, e⟩ => (hg.X b hx).2 ⟨k, o, reserve_get e⟩⟩, hg.size⟩
  have e1' := reserve_get e1
  have hk : k < h.length := by rw [← hr.len]; exact (List.getElem?_eq_some_iff.1 e1').1
  rw [hrow k hk] at e2
  obtain ⟨x1, us, tt, x2, x3, x4⟩ := hg.row k b o r e1' e2
  refine ⟨x1, us, tt, x2, x3, fun i c hi => ?_⟩
  obtain ⟨u, y1, y2⟩ := x4 i c hi
  exact ⟨u, y1, y2.mo hmo⟩

def stpC : Option (Cls × MI) → Bool
  | some (.r _, _) => true
  | some (.q _, _) => true
  | _ => false

section
variable {P : Program} {cal : Callee} {l : List Oper} {Q : Exit → Act → World → Prop} {lim B : Nat} {h : List Row} {a : Act} {t : List LV} {C : Cx}

theorem first_of (p : Nat → Bool) : ∀ n, ∃ i, i ≤ n ∧ (∀ j, j < i → p j = false) ∧ (i = n ∨ p i = true)
  | 0 => ⟨0, Nat.le_refl _, fun j hj => by omega, .inl rfl⟩
  | n + 1 => by
    obtain ⟨i, h1, h2, h3⟩ := first_of p n
    rcases h3 with rfl | h3
    · cases hp : p i with
      | true => exact ⟨i, by omega, h2, .inr hp⟩
      | false => exact ⟨i + 1, Nat.le_refl _, fun j hj => by
          rcases Nat.lt_or_ge j i with h | h
          · exact h2 j h
          · rw [show j = i by omega]; exact hp, .inl rfl⟩
    · exact ⟨i, by omega, h2, .inr h3⟩

theorem regM_sound (hcal : CalOK P cal) (hmo : P.follows .mixedOrders = true) {id : Nat} {ops : Array Oper} {ms : List MI} {hd : List (Cls × MI)} {n : Nat} {s1 s2 : St} {rs : LogR} {mu : LogM} (hms : mapO (cI P ops) ops.toList = some ms) (hhd : hd.map Prod.snd = ms.take n) (hnl : n ≤ ops.toList.length) (hfl : flowB ops n = true) (hok : okCls ops hd = true)
    (he : evHM cal lim h 0 hd (t, h ++ List.replicate (cntM hd) ⟨0, []⟩) = some (s1, rs, mu)) (hrm : okRM rs mu = true) (htl : evOps cal false lim (ms.drop n) s1 = some s2)
    (ht : TmpR C t a) (hr : Rel C B h) (hd0 : a.defers = []) (hQ : ∀ a' w', StPost B lim C s2 a' w' → Q .normal a' w') (mo_take : mapO (cI P ops) (ops.toList.take n) = some (ms.take n) ∧ mapO (cI P ops) (ops.toList.drop n) = some (ms.drop n))
    (ltake : ∀ (xs : Nat → LV) i, i ≤ n → lexT (ops.toList.take n) t xs i = lexT ops.toList t xs i) : (Code.region id ops true).wp P Q a C.w := by
  have hops : ops = ops.toList.toArray := by simp
  obtain ⟨m1, m2⟩ := mo_take
  rw [← hhd] at m1
  obtain ⟨xs, hs, e1, e2, e3⟩ := headM_trace _ hd 0 t _ s1 rs mu m1 he
  have hlen : (ops.toList.take n).length = n := by rw [List.length_take]; omega
  have hhl : hd.length = n := by
    have := congrArg List.length hhd
    have hml : ms.length = ops.toList.length := by
      have := mapO_spec hms
      exact this.1.symm
    simp at this
    simp at hml hnl
    omega
  rw [hlen, ltake xs n (Nat.le_refl _)] at e1
  have hflow : Flow ops.toList.toArray n := by rw [hops] at hfl; exact flow_of hfl
  let stp : Nat → Bool := fun i => stpC (hd[i]?)
  let mkr : Nat → Option Nat := fun i => match hd[i]? with | some (.m r, _) => some (h.length + r) | _ => none
  have F : ∀ (i : Nat) (o : Oper), i < n → ops.toList[i]? = some o → Told P cal lim h ops 0 i o hd (lexT ops.toList t xs) hs rs mu := by
    intro i o hi ho
    obtain ⟨c, m, f1, f2, f3⟩ := e3 i o (by rw [List.getElem?_take, if_pos hi]; exact ho)
    rw [ltake xs i (by omega), ltake xs (i + 1) (by omega)] at f3
    exact ⟨c, m, f1, f2, f3⟩
  have G : ∀ (i : Nat) c m, hd[i]? = some (c, m) → ∃ o, i < n ∧ ops.toList[i]? = some o ∧ cI P ops o = some m ∧ match c with
      | .p => (∃ h1, evMI cal true lim m (lexT ops.toList t xs i, h) = some (lexT ops.toList t xs (i + 1), h1)) ∧ hs (i + 1) = hs i ∧ ∃ ks, rdsMI m.op (lexT ops.toList t xs i) = some ks ∧ (i, ks) ∈ rs
      | .m r => evMk h.length r m (lexT ops.toList t xs i, hs i) = some (lexT ops.toList t xs (i + 1), hs (i + 1)) ∧ (i, [h.length + r]) ∈ rs
      | .r w => evMI cal false lim m (lexT ops.toList t xs i, hs i) = some (lexT ops.toList t xs (i + 1), hs (i + 1)) ∧ (w, mutsMI cal (hs i) m.op (lexT ops.toList t xs i), hs i, hs (i + 1)) ∈ mu
      | .q _ => (∃ h1, evMI cal true lim m (lexT ops.toList t xs i, hs i) = some (lexT ops.toList t xs (i + 1), h1)) ∧ hs (i + 1) = hs i := by
    intro i c m hi
    have hin : i < n := by rw [← hhl]; exact (List.getElem?_eq_some_iff.1 hi).1
    have hil : i < ops.toList.length := by omega
    obtain ⟨c', m', f1, f2, f3⟩ := F i ops.toList[i] hin (List.getElem?_eq_getElem hil)
    rw [hi] at f1
    cases f1
    refine ⟨_, hin, List.getElem?_eq_getElem hil, f2, ?_⟩
    simpa using f3
  obtain ⟨iR, i1, i2, i3⟩ := first_of stp n
  have mlt : ∀ (i r : Nat) m, hd[i]? = some (.m r, m) → i < iR := by
    intro i r m hi
    rcases Nat.lt_or_ge i iR with h | h
    · exact h
    · exfalso
      have hin : i < n := by rw [← hhl]; exact (List.getElem?_eq_some_iff.1 hi).1
      rcases i3 with h3 | h3
      · omega
      · have : stpC (hd[iR]?) = true := h3
        unfold stpC at this
        split at this
        · rename_i w m' hw
          rcases Nat.lt_or_ge iR i with h' | h'
          · exact ((okCls_m hok hi).2.1 iR w m' h').1 hw
          · obtain rfl : i = iR := by omega
            rw [hi] at hw; cases hw
        · rename_i w m' hw
          rcases Nat.lt_or_ge iR i with h' | h'
          · exact ((okCls_m hok hi).2.1 iR w m' h').2 hw
          · obtain rfl : i = iR := by omega
            rw [hi] at hw; cases hw
        · cases this
  -- the rows ahead of the first that comes in its place
  have A : ∀ i, i ≤ iR → (hs i).length = h.length + cntM hd ∧ (hs i).map Row.ver = h.map Row.ver ++ List.replicate (cntM hd) 0 ∧ (∀ k, k < h.length → (hs i)[k]? = h[k]?) ∧
      ∀ (j r : Nat) m, j < i → hd[j]? = some (.m r, m) → (hs i)[h.length + r]? = (hs (j + 1))[h.length + r]? := by
    intro i
    induction i with
    | zero =>
      intro _
      rw [e2]
      exact ⟨by simp, by simp, fun k hk => by rw [List.getElem?_append_left hk], fun j r m hj => by omega⟩
    | succ i ih =>
      intro hi
      obtain ⟨a1, a2, a3, a4⟩ := ih (by omega)
      have hil : i < hd.length := by omega
      have hget : hd[i]? = some hd[i] := List.getElem?_eq_getElem hil
      rcases hc : hd[i] with ⟨c, m⟩
      rw [hc] at hget
      obtain ⟨o, g1, g2, g3, g4⟩ := G i c m hget
      cases c with
      | p =>
        rw [g4.2.1]
        refine ⟨a1, a2, a3, fun j r m' hj hjm => ?_⟩
        rcases Nat.lt_or_ge j i with h' | h'
        · exact a4 j r m' h' hjm
        · obtain rfl : j = i := by omega
          rw [hget] at hjm; cases hjm
      | m r =>
        obtain ⟨d, x, y, z, esz, bytes, k1, k2, c, _, _, _, _, _, _, _, hh⟩ := evMk_spec g4.1
        rw [hh]
        have hrl : h.length + r < (hs i).length := by rw [a1]; have := (okCls_m hok hget).1; omega
        refine ⟨by simpa using a1, ?_, fun k hk => ?_, fun j r' m' hj hjm => ?_⟩
        · rw [List.map_set, a2]
          apply List.ext_getElem?
          intro k
          rw [List.getElem?_set]
          split
          · rename_i hk
            subst hk
            split
            · rw [List.getElem?_append_right (by simp), List.length_map, Nat.add_sub_cancel_left, List.getElem?_replicate, if_pos (okCls_m hok hget).1]
            · rw [List.getElem?_eq_none (by omega)]
          · rfl
        · rw [List.getElem?_set, if_neg (by omega)]; exact a3 k hk
        · rcases Nat.lt_or_ge j i with h' | h'
          · have hne := (okCls_m hok hget).2.2 j r' m' h' hjm
            rw [List.getElem?_set, if_neg (by omega)]
            exact a4 j r' m' h' hjm
          · obtain rfl : j = i := by omega
            rw [hget] at hjm
            cases hjm
            rw [hh]
      | r w =>
        exfalso
        have := i2 i (by omega)
        have h2 : stp i = true := by show stpC (hd[i]?) = true; rw [hget]; rfl
        rw [h2] at this
        cases this
      | q w =>
        exfalso
        have := i2 i (by omega)
        have h2 : stp i = true := by show stpC (hd[i]?) = true; rw [hget]; rfl
        rw [h2] at this
        cases this
  obtain ⟨a1, a2, a3, a4⟩ := A iR (Nat.le_refl _)
  let gs : Nat → List Row := fun q => hs (max q iR)
  have gsn : gs n = hs n := by show hs (max n iR) = _; rw [Nat.max_eq_left i1]
  -- what is looked at is not written by those that do not wait
  have keep : ∀ (i : Nat) (ks : List Nat) (k : Nat) (r : Row), (i, ks) ∈ rs → k ∈ ks → (hs iR)[k]? = some r → ∀ q, q ≤ n → (∀ j, j < q → stp j = true → i ∉ reach ops.toList.toArray j) → (gs q)[k]? = some r := by
    intro i ks k r hrs hk hrow q
    induction q with
    | zero => intro _ _; show (hs (max 0 iR))[k]? = _; rw [Nat.zero_max]; exact hrow
    | succ q ih =>
      intro hq hno
      have ih' := ih (by omega) fun j hj => hno j (by omega)
      rcases Nat.lt_or_ge q iR with h' | h'
      · show (hs (max (q + 1) iR))[k]? = _
        rw [Nat.max_eq_right (by omega)]; exact hrow
      · have hg1 : gs (q + 1) = hs (q + 1) := by show hs (max _ _) = _; rw [Nat.max_eq_left (by omega)]
        have hg0 : gs q = hs q := by show hs (max _ _) = _; rw [Nat.max_eq_left h']
        rw [hg1]
        rw [hg0] at ih'
        have hil : q < hd.length := by omega
        have hget : hd[q]? = some hd[q] := List.getElem?_eq_getElem hil
        rcases hc : hd[q] with ⟨c, m⟩
        rw [hc] at hget
        obtain ⟨o, g1, g2, g3, g4⟩ := G q c m hget
        cases c with
        | p => rw [g4.2.1]; exact ih'
        | m r' => have := mlt q r' m hget; omega
        | r w =>
          have hst : stp q = true := by show stpC (hd[q]?) = true; rw [hget]; rfl
          have hnr := hno q (by omega) hst
          rw [← hops] at hnr
          rcases okRM_spec hrm w _ _ _ g4.2 i ks hrs with hw | hw | ⟨mm, hw1, hw2⟩
          · exact absurd ((okCls_r hok (.inl rfl) hget).1 i hw) hnr
          · rw [hw k hk]; exact ih'
          · exact evMI_frame hw1 g4.1 ih' (hw2 k hk)
        | q w => rw [g4.2]; exact ih'
  rw [hops]
  refine wp_region_any hmo ?_
  have hbd : Below C.w.heap.size C.w { C.w with drawn := C.w.drawn + 1 } := (Below.refl _ _).drew
  obtain ⟨hle0, hfr0⟩ := reserve_le (lim := lim) (n := cntM hd) hr hbd
  have hrel0 := reserve_rel (n := cntM hd) hr hbd a1 a2 a3
  have stR : ∀ i, stp i = true → ∃ w c m, (c = .r w ∨ c = .q w) ∧ hd[i]? = some (c, m) := by
    intro i hi
    have : stpC (hd[i]?) = true := hi
    unfold stpC at this
    split at this
    · rename_i w m hw; exact ⟨w, _, m, .inl rfl, hw⟩
    · rename_i w m hw; exact ⟨w, _, m, .inr rfl, hw⟩
    · cases this
  have mkR : ∀ i r, mkr i = some r → ∃ r' m, hd[i]? = some (.m r', m) ∧ r = h.length + r' := by
    intro i r hi
    have : (match hd[i]? with | some (.m r, _) => some (h.length + r) | _ => none) = some r := hi
    split at this
    · rename_i r' m hw; exact ⟨r', m, hw, by simpa using this.symm⟩
    · cases this
  have := head_mk (l := ops.toList) (Q := Q) (A := a) (C := C) (B := B) (lim := lim) (t := t) (xs := xs) (gs := gs) (stp := stp) (mkr := mkr) hcal (n := n) hnl hflow ht.1
    (fun i r _ hi => by
      obtain ⟨r', m, _, rfl⟩ := mkR i r hi
      rw [hr.len]; omega)
    (fun i j r _ _ hi hj => by
      obtain ⟨r1, m1, h1, q1⟩ := mkR i r hi
      obtain ⟨r2, m2, h2, q2⟩ := mkR j r hj
      rcases Nat.lt_trichotomy i j with hij | hij | hij
      · exact absurd (show r1 = r2 by omega) ((okCls_m hok h2).2.2 i r1 m1 hij h1)
      · exact hij
      · exact absurd (show r2 = r1 by omega) ((okCls_m hok h1).2.2 j r2 m2 hij h2))
    (fun i o hi ho => by
      have hil : i < hd.length := by omega
      have hget : hd[i]? = some hd[i] := List.getElem?_eq_getElem hil
      rcases hc : hd[i] with ⟨c, m⟩
      rw [hc] at hget
      obtain ⟨o', g1, g2, g3, g4⟩ := G i c m hget
      rw [ho] at g2
      cases g2
      refine ⟨m, by rw [← hops]; exact g3, ?_⟩
      cases c with
      | p =>
        obtain ⟨⟨h1, g5⟩, g6, ks, g7, g8⟩ := g4
        have hs0 : stp i = false := by show stpC (hd[i]?) = false; rw [hget]; rfl
        have hm0 : mkr i = none := by show (match hd[i]? with | some (.m r, _) => some (h.length + r) | _ => none) = none; rw [hget]
        refine .inl ⟨hs0, hm0, okCls_p hok hget, ?_, fun q hq hno => ?_⟩
        · show hs (max (i + 1) iR) = hs (max i iR)
          rcases Nat.lt_or_ge i iR with h' | h'
          · rw [Nat.max_eq_right (by omega), Nat.max_eq_right (by omega)]
          · rw [Nat.max_eq_left (by omega), Nat.max_eq_left h']; exact g6
        · refine evMI_agree (okCls_p hok hget) g7 (fun k hk r hkr => ?_) g5
          refine keep i ks k r g8 hk ?_ q hq hno
          rw [a3 k (List.getElem?_eq_some_iff.1 hkr).1]; exact hkr
      | m r =>
        have hs0 : stp i = false := by show stpC (hd[i]?) = false; rw [hget]; rfl
        have hm0 : mkr i = some (h.length + r) := by show (match hd[i]? with | some (.m r, _) => some (h.length + r) | _ => none) = _; rw [hget]
        have hiR := mlt i r m hget
        obtain ⟨d, x, y, z, esz, bytes, k1, k2, c, hmm, hx, hy, c1, c2, c3, htn, hhn⟩ := evMk_spec g4.1
        refine .inr (.inl ⟨hs0, ?_, h.length + r, d, x, y, z, esz, bytes, k1, k2, c, hm0, hmm, hx, hy, c1, c2, c3, htn, fun q hq hno => ?_⟩)
        · show hs (max (i + 1) iR) = hs (max i iR)
          rw [Nat.max_eq_right (by omega), Nat.max_eq_right (by omega)]
        · refine keep i _ _ _ g4.2 (List.mem_singleton.2 rfl) ?_ q hq hno
          rw [a4 i r m hiR hget, hhn]
          have hrl : h.length + r < (hs i).length := by rw [(A i (by omega)).1]; have := (okCls_m hok hget).1; omega
          simp [hrl]
      | r w =>
        have hs0 : stp i = true := by show stpC (hd[i]?) = true; rw [hget]; rfl
        have hm0 : mkr i = none := by show (match hd[i]? with | some (.m r, _) => some (h.length + r) | _ => none) = none; rw [hget]
        have hiR : iR ≤ i := by
          rcases Nat.lt_or_ge i iR with h' | h'
          · have := i2 i h'
            rw [hs0] at this; cases this
          · exact h'
        refine .inr (.inr ⟨hs0, hm0, ?_⟩)
        have q0 : gs i = hs i := by show hs (max i iR) = _; rw [Nat.max_eq_left hiR]
        have q1 : gs (i + 1) = hs (i + 1) := by show hs (max (i + 1) iR) = _; rw [Nat.max_eq_left (by omega)]
        rw [q0, q1]
        exact .inl g4.1
      | q w =>
        have hs0 : stp i = true := by show stpC (hd[i]?) = true; rw [hget]; rfl
        have hm0 : mkr i = none := by show (match hd[i]? with | some (.m r, _) => some (h.length + r) | _ => none) = none; rw [hget]
        have hiR : iR ≤ i := by
          rcases Nat.lt_or_ge i iR with h' | h'
          · have := i2 i h'
            rw [hs0] at this; cases this
          · exact h'
        refine .inr (.inr ⟨hs0, hm0, ?_⟩)
        have q0 : gs i = hs i := by show hs (max i iR) = _; rw [Nat.max_eq_left hiR]
        have q1 : gs (i + 1) = hs (i + 1) := by show hs (max (i + 1) iR) = _; rw [Nat.max_eq_left (by omega)]
        rw [q0, q1]
        exact .inr ⟨okCls_q hok hget, g4.1, g4.2⟩)
    (fun i j hij hj hsi hsj => by
      obtain ⟨w1, c1, m1, q1, h1⟩ := stR i hsi
      obtain ⟨w2, c2, m2, q2, h2⟩ := stR j hsj
      have := okCls_r hok q2 h2
      rw [← hops]
      exact this.1 i (this.2 i w1 c1 m1 hij q1 h1))
    (fun i o x hi ho hx d hd' hlt => by
      have h1 : lexT ops.toList t xs (i + 1) = putD o.dst (lexT ops.toList t xs i) (xs i) := by
        show putD _ _ _ = _
        rw [ho]; rfl
      rw [h1] at hx
      have h2 := congrArg (fun z => getT z d) hx
      simp only [putD_get, lexT_length, hd', hlt, and_self, if_true] at h2
      exact h2)
    (fun a' D q1 q2 q3 q4 q5 => by
      rw [gsn] at q4
      rw [e1] at htl
      exact ops_list hcal _ _ _ _ a' D s2 (by rw [← hops]; exact m2) htl q3 q4 (by rw [q5, hd0]) fun a2 w2 hst => hQ a2 w2 (hst.trans q1 q2))
    ops.toList.toArray.size (Array.replicate ops.toList.toArray.size false) a (C.reserve (cntM hd) { C.w with drawn := C.w.drawn + 1 }) ?_ ?_
  · exact this
  · simp [left]
  · have gf : ∀ (m j : Nat), (Array.replicate m false).getD j false = false := fun m j => by
      rcases Nat.lt_or_ge j m with h | h <;> simp [h]
    refine ⟨by simp, fun j o _ hl => ?_, fun d hd1 hdl => ?_, rfl, rfl, hle0, hfr0, ⟨0, Nat.zero_le _, ?_, fun j _ _ => ?_, fun j r hj hr' _ => ?_⟩, fun i o d _ _ _ hl => ?_, fun d _ => (ht.2 d).mono hle0⟩
    · rw [gf] at hl; cases hl
    · simp at hdl; simp [hdl]
    · show Rel _ B (hs (max 0 iR))
      rw [Nat.zero_max]; exact hrel0
    · rw [gf]
      refine ⟨fun h => (by cases h), fun h => ?_⟩
      omega
    · obtain ⟨r', m, h1, rfl⟩ := mkR j r hr'
      have := (okCls_m hok h1).1
      show (C.ρ ++ List.replicate (cntM hd) none)[h.length + r']? = _
      rw [← hr.len, List.getElem?_append_right (by omega), Nat.add_sub_cancel_left, List.getElem?_replicate, if_pos this]
    · rw [gf] at hl; cases hl
end
end Go.Proofs.Ytjgnjpbplnmdmaa
