/- A region that draws its order, some of whose operations store: who reads what is stored into is ordered. -/
import Derived.Test.YtjgnjpbplnmdmaaEng9
namespace Go.Proofs.Ytjgnjpbplnmdmaa
open Go Go.RowKit

abbrev Pois := List (Nat × Nat × Nat)
theorem poisC_get (ps : Pois) (k : Nat) : ∀ (cs : List LV) (j i : Nat), (poisC ps k j cs)[i]? = (cs[i]?).map fun c => if inP ps k (j + i) then .bad else c
  | [], j, i => by simp [poisC]
  | c :: cs, j, 0 => by simp [poisC]
  | c :: cs, j, i + 1 => by
    unfold poisC
    rw [List.getElem?_cons_succ, List.getElem?_cons_succ, poisC_get ps k cs (j + 1) i, show j + 1 + i = j + (i + 1) by omega]
theorem poisC_length (ps : Pois) (k : Nat) : ∀ (cs : List LV) (j : Nat), (poisC ps k j cs).length = cs.length
  | [], _ => rfl
  | c :: cs, j => by simp [poisC, poisC_length ps k cs (j + 1)]
theorem poisA_get (ps : Pois) : ∀ (h : List Row) (k i : Nat), (poisA ps k h)[i]? = (h[i]?).map fun r => (⟨r.ver, poisC ps (k + i) 0 r.cells⟩ : Row)
  | [], k, i => by simp [poisA]
  | r :: h, k, 0 => by simp [poisA]
  | r :: h, k, i + 1 => by
    unfold poisA
    rw [List.getElem?_cons_succ, List.getElem?_cons_succ, poisA_get ps h (k + 1) i, show k + 1 + i = k + (i + 1) by omega]
theorem poisA_length (ps : Pois) : ∀ (h : List Row) (k : Nat), (poisA ps k h).length = h.length
  | [], _ => rfl
  | r :: h, k => by simp [poisA, poisA_length ps h (k + 1)]
theorem poisA_ver (ps : Pois) : ∀ (h : List Row) (k : Nat), (poisA ps k h).map Row.ver = h.map Row.ver
  | [], _ => rfl
  | r :: h, k => by
    unfold poisA
    rw [List.map_cons, List.map_cons, poisA_ver ps h (k + 1)]

theorem Rel.pois {C : Cx} {B : Nat} {h : List Row} (hr : Rel C B h) (ps : Pois) : Rel C B (poisA ps 0 h) := by
  refine ⟨by rw [poisA_length]; exact hr.len, by rw [poisA_ver]; exact hr.vs, hr.inj, fun k b o r h1 h2 => ?_, hr.X, hr.size⟩
  rw [poisA_get] at h2
  obtain ⟨r0, h3, h4⟩ := Option.map_eq_some_iff.1 h2
  obtain ⟨x1, us, tt, x2, x3, x4⟩ := hr.row k b o r0 h1 h3
  subst h4
  refine ⟨x1, us, tt, x2, by simp only [poisC_length]; exact x3, fun i c hi => ?_⟩
  simp only [poisC_get] at hi
  obtain ⟨c0, h5, h6⟩ := Option.map_eq_some_iff.1 hi
  obtain ⟨u, u1, u2⟩ := x4 i c0 h5
  refine ⟨u, u1, ?_⟩
  split at h6
  · subst h6; exact .bad u
  · subst h6; exact u2

theorem inPs_get {ps : Pois} {k : Nat} : ∀ {n o i : Nat}, inPs ps k o n = true → o ≤ i → i < o + n → inP ps k i = true
  | 0, o, i, _, h1, h2 => by omega
  | n + 1, o, i, h, h1, h2 => by
    unfold inPs at h
    rw [Bool.and_eq_true] at h
    by_cases hi : o = i
    · subst hi; exact h.1
    · exact inPs_get h.2 (by omega) (by omega)
theorem poisA_set (ps : Pois) (h : List Row) (k : Nat) (ver : Nat) (cs : List LV) (off : Nat) (xs : List LV) (hx : off + xs.length ≤ cs.length) (hk : h[k]? = some ⟨ver, cs⟩) (hm : inPs ps k off xs.length = true) : poisA ps 0 (h.set k ⟨ver, putR cs off xs⟩) = poisA ps 0 h := by
  refine List.ext_getElem? fun i => ?_
  rw [poisA_get, poisA_get]
  by_cases hi : k = i
  · subst hi
    have hl := (List.getElem?_eq_some_iff.1 hk).1
    rw [List.getElem?_set_self hl, hk]
    simp only [Option.map_some, Option.some.injEq, Row.mk.injEq, true_and]
    refine List.ext_getElem? fun j => ?_
    rw [poisC_get, poisC_get, Nat.zero_add, Nat.zero_add]
    unfold putR
    rw [seg_get cs off xs hx]
    by_cases hj : off ≤ j ∧ j < off + xs.length
    · rw [if_pos hj, inPs_get hm hj.1 hj.2]
      have h1 : j - off < xs.length := by omega
      have h2 : j < cs.length := by omega
      rw [List.getElem?_eq_getElem h1, List.getElem?_eq_getElem h2]
      simp
    · rw [if_neg hj]
  · rw [List.getElem?_set_ne hi]

section
variable {P : Program} {cal : Callee} {l : List Oper} {Q : Exit → Act → World → Prop} {lim B : Nat}

/-- The frame, of which some operations among the first n have come up. -/
structure HalfS (l : List Oper) (n : Nat) (A : Act) (C : Cx) (B lim : Nat) (t : List LV) (xs : Nat → LV) (hs : Nat → List Row) (stp : Nat → Bool) (listed : Array Bool) (a : Act) (D : Cx) : Prop where
  size : listed.size = l.length
  closed : ∀ (j : Nat) (o : Oper), l[j]? = some o → listed.getD j false = true → ∀ e ∈ o.after, Region.binds .any e = true → listed.getD e.on false = true
  tail : ∀ d, n ≤ d → d < l.length → listed.getD d true = false
  defers : a.defers = A.defers
  tsize : a.tmps.size = A.tmps.size
  le : Le B C D
  fr : Fr lim C D
  rel : ∃ q, q ≤ n ∧ Rel D B (hs q) ∧ ∀ j, j < n → stp j = true → (listed.getD j false = true ↔ j < q)
  done : ∀ (i : Nat) (o : Oper) (d : Tmp), i < n → l[i]? = some o → o.dst = some d → listed.getD i false = true → Conc D (getT (lexT l t xs n) d) (a.tmps.getD d undef)
  wait : ∀ (d : Tmp), (∀ (i : Nat) (o : Oper), i < n → l[i]? = some o → o.dst = some d → listed.getD i false = false) → Conc D (getT t d) (a.tmps.getD d undef)

theorem HalfS.full {n : Nat} {A : Act} {C D : Cx} {t : List LV} {xs : Nat → LV} {hs : Nat → List Row} {stp : Nat → Bool} {listed : Array Bool} {a : Act} (H : HalfS l n A C B lim t xs hs stp listed a D) (hall : ∀ j, j < n → listed.getD j false = true) (hlen : t.length = A.tmps.size) :
    TmpR D (lexT l t xs n) a := by
  refine ⟨by rw [lexT_length, hlen, H.tsize], fun d => ?_⟩
  by_cases hw : ∃ (i : Nat) (o : Oper), i < n ∧ l[i]? = some o ∧ o.dst = some d
  · obtain ⟨i, o, hi, ho, hd⟩ := hw
    exact H.done i o d hi ho hd (hall i hi)
  · have hno : ∀ (i : Nat) (o : Oper), i < n → l[i]? = some o → o.dst ≠ some d := fun i o hi ho hd => hw ⟨i, o, hi, ho, hd⟩
    rw [lexT_none l t xs d n hno]
    exact H.wait d fun i o hi ho hd => absurd hd (hno i o hi ho)

theorem hs_same {hs : Nat → List Row} {stp : Nat → Bool} {n : Nat} (hc : ∀ i, i < n → stp i = false → hs (i + 1) = hs i) : ∀ d q, q + d ≤ n → (∀ j, q ≤ j → j < q + d → stp j = false) → hs (q + d) = hs q
  | 0, q, _, _ => rfl
  | d + 1, q, h1, h2 => by
    rw [show q + (d + 1) = (q + d) + 1 by omega, hc _ (by omega) (h2 _ (by omega) (by omega))]
    exact hs_same hc d q (by omega) fun j a b => h2 j a (by omega)

theorem head_st (hcal : CalOK P cal) {n : Nat} {A : Act} {C : Cx} {t : List LV} {xs : Nat → LV} {hs : Nat → List Row} {hp : List Row} {stp : Nat → Bool} (hn : n ≤ l.length) (hf : Flow l.toArray n) (hlen : t.length = A.tmps.size)
    (hm : ∀ (i : Nat) (o : Oper), i < n → l[i]? = some o → ∃ m, cI P l.toArray o = some m ∧
      ((stp i = false ∧ quietOp m.op = true ∧ evMI cal true lim m (lexT l t xs i, hp) = some (lexT l t xs (i + 1), hp) ∧ hs (i + 1) = hs i) ∨
       (stp i = true ∧ evMI cal false lim m (lexT l t xs i, hs i) = some (lexT l t xs (i + 1), hs (i + 1)))))
    (hp' : ∀ D i, i ≤ n → Rel D B (hs i) → Rel D B hp)
    (hord : ∀ (i j : Nat) (o : Oper), i < j → j < n → stp i = true → stp j = true → l[j]? = some o → ∃ e ∈ o.after, Region.binds .any e = true ∧ e.on = i)
    (hxs : ∀ (i : Nat) (o : Oper) x, i < n → l[i]? = some o → lexT l t xs (i + 1) = putD o.dst (lexT l t xs i) x → ∀ d, o.dst = some d → d < t.length → xs i = x)
    (hQ : ∀ a D, Le B C D → Fr lim C D → TmpR D (lexT l t xs n) a → Rel D B (hs n) → a.defers = A.defers → wpList P l.toArray Q (l.drop n) a D.w) :
    ∀ (f : Nat) (listed : Array Bool) (a : Act) (D : Cx), f = left listed → HalfS l n A C B lim t xs hs stp listed a D → wpAny P .any l.toArray Q f listed a D.w := by
  have getl : ∀ {i : Nat} {o : Oper}, l.toArray[i]? = some o ↔ l[i]? = some o := by intro i o; simp
  have hcs : ∀ i, i < n → stp i = false → hs (i + 1) = hs i := by
    intro i hi hst
    obtain ⟨m, _, h | h⟩ := hm i l[i] hi (by simp)
    · exact h.2.2.2
    · rw [hst] at h; cases h.1
  have fin : ∀ (listed : Array Bool) (a : Act) (D : Cx), HalfS l n A C B lim t xs hs stp listed a D → (∀ j, j < n → listed.getD j false = true) → Rel D B (hs n) := by
    intro listed a D H hall
    obtain ⟨q, q1, q2, q3⟩ := H.rel
    have := hs_same (hs := hs) (stp := stp) (n := n) hcs (n - q) q (by omega) fun j h1 h2 => by
      cases hv : stp j with
      | false => rfl
      | true => have := (q3 j (by omega) hv).1 (hall j (by omega)); omega
    rw [show q + (n - q) = n by omega] at this
    rw [this]; exact q2
  intro f
  induction f with
  | zero =>
    intro listed a D hf0 H
    have hall : ∀ j, j < l.length → listed.getD j false = true := by
      intro j hj
      cases hv : listed.getD j false with
      | true => rfl
      | false =>
        have := left_set (i := j) (by rw [H.size]; exact hj) (by rw [← getD_ft (by rw [H.size]; exact hj)]; exact hv)
        omega
    have hnl : n = l.length := by
      rcases Nat.lt_or_ge n l.length with h | h
      · have := H.tail n (Nat.le_refl _) h
        rw [← getD_ft (by rw [H.size]; exact h), hall n h] at this
        cases this
      · omega
    exact tail_any (Q := Q) hf 0 n listed _ D.w (Nat.le_refl _) (by omega) (by omega) H.size (fun j hj => hall j (by omega)) (fun j hj hjl => by omega)
      (hQ a D H.le H.fr (H.full (fun j hj => hall j (by omega)) hlen) (fin listed a D H fun j hj => hall j (by omega)) H.defers)
  | succ f ih =>
    intro listed a D hfl H
    by_cases hhead : ∀ j, j < n → listed.getD j false = true
    · have hcount : left listed = l.length - n := by
        unfold left
        have e : listed.toList = List.replicate n true ++ List.replicate (l.length - n) false := by
          refine List.ext_getElem (by simp [H.size]; omega) fun i h1 h2 => ?_
          have hi : i < listed.size := by simpa using h1
          rw [List.getElem_append]
          by_cases hin : i < n
          · have := hhead i hin
            simp [hin]
            simpa [hi] using this
          · have := H.tail i (by omega) (by rw [← H.size]; exact hi)
            simp [hin]
            simpa [hi] using this
        rw [e]
        simp
      rw [show f + 1 = l.length - n by omega]
      exact tail_any (Q := Q) hf _ n listed _ D.w (Nat.le_refl _) hn rfl H.size hhead H.tail (hQ a D H.le H.fr (H.full hhead hlen) (fin listed a D H hhead) H.defers)
    · have hex : ∃ j, j < n ∧ listed.getD j false = false := by
        refine Classical.byContradiction fun hno => hhead fun j hj => ?_
        cases hv : listed.getD j false with
        | true => rfl
        | false => exact absurd ⟨j, hj, hv⟩ hno
      refine ⟨fun h0 => ?_, fun i hi => ?_⟩
      · exfalso
        obtain ⟨j, hj, hjv⟩ := hex
        have : ∀ m, ∀ j, j < m → j < n → listed.getD j false = false → False := by
          intro m
          induction m with
          | zero => intro j hj; omega
          | succ m ihm =>
            intro j hjm hjn hjv
            have hjl : j < l.length := by omega
            have hr : j ∈ Region.ready .any l.toArray listed := by
              refine mem_ready.2 ⟨by rw [← getD_ft (by rw [H.size]; exact hjl)]; exact hjv, l[j], by simp [hjl], fun e he hb => ?_⟩
              have hlt := hf.early j l[j] (by simp [hjl]) e he hb
              cases hv : listed.getD e.on false with
              | true => rfl
              | false => exact (ihm e.on (by omega) (by omega) hv).elim
            rw [h0] at hr
            cases hr
        exact this (j + 1) j (by omega) hj hjv
      · obtain ⟨hun, o, ho, hall⟩ := mem_ready.1 hi
        have hil : i < l.length := by simpa using (Array.getElem?_eq_some_iff.1 ho).1
        have hin : i < n := by
          rcases Nat.lt_or_ge i n with h | h
          · exact h
          · exfalso
            obtain ⟨j, hj, hjv⟩ := hex
            rcases Nat.lt_or_ge n i with h' | h'
            · obtain ⟨e, he, hb, hon⟩ := hf.tail i o ho h'
              have := hall e he hb
              rw [hon, getD_ft (by rw [H.size]; omega), H.tail (i - 1) (by omega) (by omega)] at this
              cases this
            · obtain rfl : i = n := by omega
              have := hf.join o ho (fun k => listed.getD k false = true) (fun k x _ hx hk e he hb => H.closed k x (getl.1 hx) hk e he hb) (fun e he hb => hall e he hb) j hj
              rw [hjv] at this
              cases this
        have hol := getl.1 ho
        have hunf : listed.getD i false = false := by rw [getD_ft (by rw [H.size]; exact hil)]; exact hun
        have hlook : ∀ d ∈ o.looksAt l.toArray, Conc D (getT (lexT l t xs i) d) (a.tmps.getD d undef) := by
          intro d hd'
          by_cases hw : ∃ (j : Nat) (y : Oper), j < n ∧ l[j]? = some y ∧ y.dst = some d
          · obtain ⟨j, y, hj, hy, hd⟩ := hw
            have huq : ∀ (k : Nat) (x : Oper), k < n → l[k]? = some x → x.dst = some d → k = j := fun k x hk hx hxt => hf.uniq k j x y d hk hj (getl.2 hx) (getl.2 hy) hxt hd
            have late : i ≤ j → listed.getD j false = false → Conc D (getT (lexT l t xs i) d) (a.tmps.getD d undef) := by
              intro hij hjf
              rw [lexT_none l t xs d i fun k x hk hx hxt => by have := huq k x (by omega) hx hxt; omega]
              exact H.wait d fun k x hk hx hxt => by rw [huq k x hk hx hxt]; exact hjf
            rcases hf.flow i j o y d hin hj ho (getl.2 hy) hd hd' with h | ⟨h, e, he, hb, hon⟩ | ⟨h, e, he, hb, hon⟩
            · subst h; exact late (Nat.le_refl _) hunf
            · have hjl : listed.getD j false = true := by rw [← hon]; exact hall e he hb
              have := H.done j y d hj hy hd hjl
              rw [lexT_some l t xs d n j y hy hd huq n hj (Nat.le_refl _)] at this
              rw [lexT_some l t xs d n j y hy hd huq i h (by omega)]
              exact this
            · refine late (by omega) ?_
              cases hv : listed.getD j false with
              | false => rfl
              | true =>
                have := H.closed j y hy hv e he hb
                rw [hon, hunf] at this
                cases this
          · have hno : ∀ (k : Nat) (x : Oper), k < n → l[k]? = some x → x.dst ≠ some d := fun k x hk hx hd => hw ⟨k, x, hk, hx, hd⟩
            rw [lexT_none l t xs d i fun k x hk hx => hno k x (by omega) hx]
            exact H.wait d fun k x hk hx hxt => absurd hxt (hno k x hk hx)
        obtain ⟨m, hm1, hm2⟩ := hm i o hin hol
        obtain ⟨q, q1, q2, q3⟩ := H.rel
        have hgetA : ∀ u d, (a.put o.dst u).tmps.getD d undef = if o.dst = some d ∧ d < a.tmps.size then u else a.tmps.getD d undef := by
          intro u d
          cases hdst : o.dst with
          | none => simp [Act.put]
          | some d' =>
            simp only [Act.put, Option.some.injEq]
            by_cases h : d' = d
            · subst h
              by_cases hs : d' < a.tmps.size
              · simp [hs]
              · simp [hs]
            · rw [if_neg (fun hh => h hh.1)]
              simp [Array.getElem?_setIfInBounds_ne h]
        have lset : ∀ j, (listed.setIfInBounds i true).getD j false = true → j ≠ i → listed.getD j false = true := by
          intro j hl hij
          rw [getD_set_ne false (fun h => hij h.symm)] at hl
          exact hl
        have step : ∀ (x : LV) (u : Value) (D' : Cx), (∀ d, o.dst = some d → d < t.length → xs i = x) → Le B D D' → Fr lim D D' → Conc D' x u →
            (∃ q, q ≤ n ∧ Rel D' B (hs q) ∧ ∀ j, j < n → stp j = true → ((listed.setIfInBounds i true).getD j false = true ↔ j < q)) →
            wpAny P .any l.toArray Q f (listed.setIfInBounds i true) (a.put o.dst u) D'.w := by
          intro x u D' hxi hle hfr hcu hrel
          have hget := hgetA u
          refine ih _ _ D' (by have := left_set (by rw [H.size]; exact hil) hun; omega) ⟨by simpa using H.size, ?_, ?_, ?_, ?_, H.le.trans hle, H.fr.trans hfr, hrel, ?_, ?_⟩
          · intro j y hy hl e he' hb
            by_cases hij : j = i
            · subst hij
              rw [hy] at hol
              obtain rfl := Option.some.inj hol
              exact getD_set_true (hall e he' hb)
            · exact getD_set_true (H.closed j y hy (lset j hl hij) e he' hb)
          · intro d hd hdl
            rw [getD_set_ne true (by omega)]
            exact H.tail d hd hdl
          · rw [put_defers]; exact H.defers
          · cases hdst : o.dst <;> simp [Act.put, H.tsize]
          · intro j y d hj hy hd hl
            rw [hget]
            by_cases hij : j = i
            · subst hij
              rw [hy] at hol
              obtain rfl := Option.some.inj hol
              have huq : ∀ (k : Nat) (x : Oper), k < n → l[k]? = some x → x.dst = some d → k = j := fun k x hk hx hxt => hf.uniq k j x y d hk hj (getl.2 hx) (getl.2 hy) hxt hd
              rw [lexT_some l t xs d n j y hy hd huq n hj (Nat.le_refl _)]
              by_cases hs : d < t.length
              · rw [if_pos hs, if_pos ⟨hd, by rw [H.tsize, ← hlen]; exact hs⟩, hxi d hd hs]
                exact hcu
              · rw [if_neg hs]; exact .bad _
            · rw [if_neg]
              · exact (H.done j y d hj hy hd (lset j hl hij)).mono hle
              · rintro ⟨hdo, _⟩
                exact hij (hf.uniq j i y o d hj hin (getl.2 hy) ho hd hdo)
          · intro d hno
            have hdo : o.dst ≠ some d := fun hd => by
              have := hno i o hin hol hd
              rw [show (listed.setIfInBounds i true).getD i false = true by simp [H.size, hil]] at this
              cases this
            rw [hget, if_neg (fun h => hdo h.1)]
            refine (H.wait d fun j y hj hy hd => ?_).mono hle
            have hij : i ≠ j := fun h => by
              subst h
              rw [hy] at hol
              obtain rfl := Option.some.inj hol
              exact hdo hd
            have := hno j y hj hy hd
            rwa [getD_set_ne false hij] at this
        -- what is listed of the stores
        have lq : stp i = false → ∀ j, j < n → stp j = true → ((listed.setIfInBounds i true).getD j false = true ↔ j < q) := by
          intro hsi j hj hsj
          have hij : i ≠ j := fun h => by subst h; rw [hsi] at hsj; cases hsj
          rw [getD_set_ne false hij]
          exact q3 j hj hsj
        rcases hm2 with ⟨hsi, hqo, hev, _⟩ | ⟨hsi, hev⟩
        · obtain ⟨x, hx1, hx2⟩ := mi_any (C := D) (B := B) (quiet := true) hcal hm1 (fun _ => hqo) hlook (hp' D q q1 q2) hev
          have hxi := hxs i o x hin hol hx1
          unfold wpOp
          simp only [ho]
          rcases hx2 with ⟨hw, hdn⟩ | ⟨hw, hxu, _⟩
          · rw [hw, if_pos rfl]
            refine .inl (done_wp hdn fun u w' hpo => ?_)
            obtain ⟨C', rfl, c1, c2, c3, c4, c5⟩ := hpo
            obtain ⟨_, d1, d2, d3⟩ := c5 rfl
            have hX : C'.X = D.X := c3.X
            have hC' : C' = { D with w := C'.w } := by
              cases C'
              simp only at d1 d2 hX ⊢
              subst d1; subst d2; subst hX
              rfl
            refine step x u C' hxi c3 c4 c1 ⟨q, q1, ?_, lq hsi⟩
            rw [hC']
            exact q2.grow d3
          · rw [hw, if_neg (by simp)]
            exact step x undef D hxi (Le.refl _ _) (Fr.refl _ _) (by rw [hxu]; exact .v _) ⟨q, q1, q2, lq hsi⟩
        · -- a store: those ahead of it are done, those behind it are not
          have before : ∀ j, j < i → stp j = true → listed.getD j false = true := by
            intro j hji hsj
            obtain ⟨e, he, hb, hon⟩ := hord j i o hji hin hsj hsi hol
            rw [← hon]; exact hall e he hb
          have behind : ∀ j, i < j → j < n → stp j = true → listed.getD j false = false := by
            intro j hij hj hsj
            cases hv : listed.getD j false with
            | false => rfl
            | true =>
              obtain ⟨e, he, hb, hon⟩ := hord i j l[j] hij hj hsi hsj (by simp)
              have := H.closed j l[j] (by simp) hv e he hb
              rw [hon, hunf] at this
              cases this
          have hqi : q ≤ i := by
            rcases Nat.lt_or_ge i q with h | h
            · have := (q3 i hin hsi).2 h
              rw [hunf] at this
              cases this
            · exact h
          have hq : hs i = hs q := by
            have := hs_same (hs := hs) (stp := stp) (n := n) hcs (i - q) q (by omega) fun j h1 h2 => by
              cases hv : stp j with
              | false => rfl
              | true => have := (q3 j (by omega) hv).1 (before j (by omega) hv); omega
            rw [show q + (i - q) = i by omega] at this
            exact this
          obtain ⟨x, hx1, hx2⟩ := mi_any (C := D) (B := B) (quiet := false) hcal hm1 (fun hh => by cases hh) hlook (by rw [hq]; exact q2) hev
          have hxi := hxs i o x hin hol hx1
          have lqs : ∀ j, j < n → stp j = true → ((listed.setIfInBounds i true).getD j false = true ↔ j < i + 1) := by
            intro j hj hsj
            rcases Nat.lt_trichotomy j i with h | h | h
            · exact ⟨fun _ => (by omega), fun _ => getD_set_true (before j h hsj)⟩
            · subst h
              exact ⟨fun _ => (by omega), fun _ => by simp [H.size, hil]⟩
            · rw [getD_set_ne false (by omega), behind j h hj hsj]
              refine ⟨fun h => (by cases h), fun h => ?_⟩
              omega
          unfold wpOp
          simp only [ho]
          rcases hx2 with ⟨hw, hdn⟩ | ⟨hw, hxu, hh⟩
          · rw [hw, if_pos rfl]
            refine .inl (done_wp hdn fun u w' hpo => ?_)
            obtain ⟨C', rfl, c1, c2, c3, c4, _⟩ := hpo
            exact step x u C' hxi c3 c4 c1 ⟨i + 1, by omega, c2, lqs⟩
          · rw [hw, if_neg (by simp)]
            refine step x undef D hxi (Le.refl _ _) (Fr.refl _ _) (by rw [hxu]; exact .v _) ⟨i + 1, by omega, ?_, lqs⟩
            rw [hh, hq]; exact q2
end
end Go.Proofs.Ytjgnjpbplnmdmaa
