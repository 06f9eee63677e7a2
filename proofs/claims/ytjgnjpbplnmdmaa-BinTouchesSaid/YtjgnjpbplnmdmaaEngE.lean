/- A region whose head makes rows and writes: one walk in the order of the text serves every order. -/
import Derived.Test.YtjgnjpbplnmdmaaEngC
namespace Go.Proofs.Ytjgnjpbplnmdmaa
open Go Go.RowKit

theorem cI_parts {P : Program} {ops : Array Oper} {o : Oper} {d : Nat} {op : MOp} (h1 : cI P ops o = some ⟨some d, op, none⟩) : cOp P o = some op ∧ o.guard = none := by
  unfold cI at h1
  simp only [Option.bind_eq_bind, Option.bind_eq_some_iff] at h1
  obtain ⟨op', hop, h1⟩ := h1
  cases hg : o.guard with
  | none =>
    simp only [hg, Option.pure_def, Option.some.injEq, MI.mk.injEq] at h1
    obtain ⟨_, rfl, _⟩ := h1
    exact ⟨hop, rfl⟩
  | some gw =>
    obtain ⟨g, w⟩ := gw
    simp only [hg] at h1
    split at h1
    · simp at h1
    · simp at h1

theorem cI_dst' {P : Program} {ops : Array Oper} {o : Oper} {m : MI} (h1 : cI P ops o = some m) : m.dst = o.dst := by
  unfold cI at h1
  simp only [Option.bind_eq_bind, Option.bind_eq_some_iff] at h1
  obtain ⟨op, hop, h1⟩ := h1
  cases hg : o.guard with
  | none =>
    simp only [hg, Option.pure_def, Option.some.injEq] at h1
    rw [← h1]
  | some gw =>
    obtain ⟨g, w⟩ := gw
    simp only [hg] at h1
    split at h1
    · simp only [Option.pure_def, Option.some.injEq] at h1
      rw [← h1]
    · simp at h1

section
variable {P : Program} {cal : Callee} {l : List Oper} {Q : Exit → Act → World → Prop} {lim B : Nat}

/-- The frame, of which some operations among the first n have come up. -/
structure HalfM (l : List Oper) (n : Nat) (A : Act) (C : Cx) (B lim : Nat) (t : List LV) (xs : Nat → LV) (gs : Nat → List Row) (stp : Nat → Bool) (mkr : Nat → Option Nat) (listed : Array Bool) (a : Act) (D : Cx) : Prop where
  size : listed.size = l.length
  closed : ∀ (j : Nat) (o : Oper), l[j]? = some o → listed.getD j false = true → ∀ e ∈ o.after, Region.binds .any e = true → listed.getD e.on false = true
  tail : ∀ d, n ≤ d → d < l.length → listed.getD d true = false
  defers : a.defers = A.defers
  tsize : a.tmps.size = A.tmps.size
  le : Le B C D
  fr : Fr lim C D
  rel : ∃ q, q ≤ n ∧ Rel D B (gs q) ∧ (∀ j, j < n → stp j = true → (listed.getD j false = true ↔ j < q)) ∧ ∀ (j r : Nat), j < n → mkr j = some r → listed.getD j false = false → D.ρ[r]? = some none
  done : ∀ (i : Nat) (o : Oper) (d : Tmp), i < n → l[i]? = some o → o.dst = some d → listed.getD i false = true → Conc D (getT (lexT l t xs n) d) (a.tmps.getD d undef)
  wait : ∀ (d : Tmp), (∀ (i : Nat) (o : Oper), i < n → l[i]? = some o → o.dst = some d → listed.getD i false = false) → Conc D (getT t d) (a.tmps.getD d undef)

theorem HalfM.full {n : Nat} {A : Act} {C D : Cx} {t : List LV} {xs : Nat → LV} {gs : Nat → List Row} {stp : Nat → Bool} {mkr : Nat → Option Nat} {listed : Array Bool} {a : Act} (H : HalfM l n A C B lim t xs gs stp mkr listed a D) (hall : ∀ j, j < n → listed.getD j false = true) (hlen : t.length = A.tmps.size) :
    TmpR D (lexT l t xs n) a := by
  refine ⟨by rw [lexT_length, hlen, H.tsize], fun d => ?_⟩
  by_cases hw : ∃ (i : Nat) (o : Oper), i < n ∧ l[i]? = some o ∧ o.dst = some d
  · obtain ⟨i, o, hi, ho, hd⟩ := hw
    exact H.done i o d hi ho hd (hall i hi)
  · have hno : ∀ (i : Nat) (o : Oper), i < n → l[i]? = some o → o.dst ≠ some d := fun i o hi ho hd => hw ⟨i, o, hi, ho, hd⟩
    rw [lexT_none l t xs d n hno]
    exact H.wait d fun i o hi ho hd => absurd hd (hno i o hi ho)

theorem reach_listed {ops : Array Oper} {S : Nat → Prop} (hc : ∀ (j : Nat) (x : Oper), ops[j]? = some x → S j → ∀ e ∈ x.after, Region.binds .any e = true → S e.on) {j : Nat} {o : Oper} (ho : ops[j]? = some o) (ha : ∀ e ∈ o.after, Region.binds .any e = true → S e.on) :
    ∀ i ∈ reach ops j, S i := by
  intro i hi
  unfold reach at hi
  rw [ho] at hi
  refine reach_spec (S := S) (List.range j) (afters o) (fun k _ x hx hk e he hb => hc k x hx hk e he hb) (fun k hk => ?_) i hi
  obtain ⟨e, h1, h2, rfl⟩ := afters_spec hk
  exact ha e h1 h2

theorem head_mk (hcal : CalOK P cal) {n : Nat} {A : Act} {C : Cx} {t : List LV} {xs : Nat → LV} {gs : Nat → List Row} {stp : Nat → Bool} {mkr : Nat → Option Nat} (hn : n ≤ l.length) (hf : Flow l.toArray n) (hlen : t.length = A.tmps.size)
    (hmr : ∀ (i r : Nat), i < n → mkr i = some r → C.ρ.length ≤ r)
    (hmi : ∀ (i j r : Nat), i < n → j < n → mkr i = some r → mkr j = some r → i = j)
    (hm : ∀ (i : Nat) (o : Oper), i < n → l[i]? = some o → ∃ m, cI P l.toArray o = some m ∧
      ((stp i = false ∧ mkr i = none ∧ quietOp m.op = true ∧ gs (i + 1) = gs i ∧ ∀ q, q ≤ n → (∀ j, j < q → stp j = true → i ∉ reach l.toArray j) → evMI cal true lim m (lexT l t xs i, gs q) = some (lexT l t xs (i + 1), gs q)) ∨
       (stp i = false ∧ gs (i + 1) = gs i ∧ ∃ (r d : Nat) (x y : MO) (z : List LV) (esz bytes : Nat) (k1 k2 : IntKind) (c : Int), mkr i = some r ∧ m = ⟨some d, .mks x y z esz bytes, none⟩ ∧ ev (lexT l t xs i) x = .v (.int k1 c) ∧ ev (lexT l t xs i) y = .v (.int k2 c) ∧ 0 ≤ c ∧ c ≤ 9223372036854775807 ∧ c.toNat * bytes ≤ 140737488355328 ∧
         lexT l t xs (i + 1) = setT (lexT l t xs i) d (.sl r 0 0 c.toNat esz c.toNat) ∧ ∀ q, q ≤ n → (∀ j, j < q → stp j = true → i ∉ reach l.toArray j) → (gs q)[r]? = some ⟨0, repC z c.toNat⟩) ∨
       (stp i = true ∧ mkr i = none ∧ (evMI cal false lim m (lexT l t xs i, gs i) = some (lexT l t xs (i + 1), gs (i + 1)) ∨ (quietOp m.op = true ∧ (∃ h1, evMI cal true lim m (lexT l t xs i, gs i) = some (lexT l t xs (i + 1), h1)) ∧ gs (i + 1) = gs i)))))
    (hord : ∀ (i j : Nat), i < j → j < n → stp i = true → stp j = true → i ∈ reach l.toArray j)
    (hxs : ∀ (i : Nat) (o : Oper) x, i < n → l[i]? = some o → lexT l t xs (i + 1) = putD o.dst (lexT l t xs i) x → ∀ d, o.dst = some d → d < t.length → xs i = x)
    (hQ : ∀ a D, Le B C D → Fr lim C D → TmpR D (lexT l t xs n) a → Rel D B (gs n) → a.defers = A.defers → wpList P l.toArray Q (l.drop n) a D.w) :
    ∀ (f : Nat) (listed : Array Bool) (a : Act) (D : Cx), f = left listed → HalfM l n A C B lim t xs gs stp mkr listed a D → wpAny P .any l.toArray Q f listed a D.w := by
  have getl : ∀ {i : Nat} {o : Oper}, l.toArray[i]? = some o ↔ l[i]? = some o := by intro i o; simp
  have hcs : ∀ i, i < n → stp i = false → gs (i + 1) = gs i := by
    intro i hi hst
    obtain ⟨m, _, h | h | h⟩ := hm i l[i] hi (by simp)
    · exact h.2.2.2.1
    · exact h.2.1
    · rw [hst] at h; cases h.1
  have fin : ∀ (listed : Array Bool) (a : Act) (D : Cx), HalfM l n A C B lim t xs gs stp mkr listed a D → (∀ j, j < n → listed.getD j false = true) → Rel D B (gs n) := by
    intro listed a D H hall
    obtain ⟨q, q1, q2, q3, _⟩ := H.rel
    have := hs_same (hs := gs) (stp := stp) (n := n) hcs (n - q) q (by omega) fun j h1 h2 => by
      cases hv : stp j with
      | false => rfl
      | true => have := (q3 j (by omega) hv).1 (hall j (by omega)); omega
    rw [show q + (n - q) = n by omega] at this
    rw [this]; exact q2
  intro f
  induction f with
  | zero =>
    intro listed a D hf0 H
    have hall : ∀ j, j < l.length → listed.getD j false = true := by
      intro j hj
      cases hv : listed.getD j false with
      | true => rfl
      | false =>
        have := left_set (i := j) (by rw [H.size]; exact hj) (by rw [← getD_ft (by rw [H.size]; exact hj)]; exact hv)
        omega
    have hnl : n = l.length := by
      rcases Nat.lt_or_ge n l.length with h | h
      · have := H.tail n (Nat.le_refl _) h
        rw [← getD_ft (by rw [H.size]; exact h), hall n h] at this
        cases this
      · omega
    exact tail_any (Q := Q) hf 0 n listed _ D.w (Nat.le_refl _) (by omega) (by omega) H.size (fun j hj => hall j (by omega)) (fun j hj hjl => by omega)
      (hQ a D H.le H.fr (H.full (fun j hj => hall j (by omega)) hlen) (fin listed a D H fun j hj => hall j (by omega)) H.defers)
  | succ f ih =>
    intro listed a D hfl H
    by_cases hhead : ∀ j, j < n → listed.getD j false = true
    · have hcount : left listed = l.length - n := by
        unfold left
        have e : listed.toList = List.replicate n true ++ List.replicate (l.length - n) false := by
          refine List.ext_getElem (by simp [H.size]; omega) fun i h1 h2 => ?_
          have hi : i < listed.size := by simpa using h1
          rw [List.getElem_append]
          by_cases hin : i < n
          · have := hhead i hin
            simp [hin]
            simpa [hi] using this
          · have := H.tail i (by omega) (by rw [← H.size]; exact hi)
            simp [hin]
            simpa [hi] using this
        rw [e]
        simp
      rw [show f + 1 = l.length - n by omega]
      exact tail_any (Q := Q) hf _ n listed _ D.w (Nat.le_refl _) hn rfl H.size hhead H.tail (hQ a D H.le H.fr (H.full hhead hlen) (fin listed a D H hhead) H.defers)
    · have hex : ∃ j, j < n ∧ listed.getD j false = false := by
        refine Classical.byContradiction fun hno => hhead fun j hj => ?_
        cases hv : listed.getD j false with
        | true => rfl
        | false => exact absurd ⟨j, hj, hv⟩ hno
      refine ⟨fun h0 => ?_, fun i hi => ?_⟩
      · exfalso
        obtain ⟨j, hj, hjv⟩ := hex
        have : ∀ m, ∀ j, j < m → j < n → listed.getD j false = false → False := by
          intro m
          induction m with
          | zero => intro j hj; omega
          | succ m ihm =>
            intro j hjm hjn hjv
            have hjl : j < l.length := by omega
            have hr : j ∈ Region.ready .any l.toArray listed := by
              refine mem_ready.2 ⟨by rw [← getD_ft (by rw [H.size]; exact hjl)]; exact hjv, l[j], by simp [hjl], fun e he hb => ?_⟩
              have hlt := hf.early j l[j] (by simp [hjl]) e he hb
              cases hv : listed.getD e.on false with
              | true => rfl
              | false => exact (ihm e.on (by omega) (by omega) hv).elim
            rw [h0] at hr
            cases hr
        exact this (j + 1) j (by omega) hj hjv
      · obtain ⟨hun, o, ho, hall⟩ := mem_ready.1 hi
        have hil : i < l.length := by simpa using (Array.getElem?_eq_some_iff.1 ho).1
        have hin : i < n := by
          rcases Nat.lt_or_ge i n with h | h
          · exact h
          · exfalso
            obtain ⟨j, hj, hjv⟩ := hex
            rcases Nat.lt_or_ge n i with h' | h'
            · obtain ⟨e, he, hb, hon⟩ := hf.tail i o ho h'
              have := hall e he hb
              rw [hon, getD_ft (by rw [H.size]; omega), H.tail (i - 1) (by omega) (by omega)] at this
              cases this
            · obtain rfl : i = n := by omega
              have := hf.join o ho (fun k => listed.getD k false = true) (fun k x _ hx hk e he hb => H.closed k x (getl.1 hx) hk e he hb) (fun e he hb => hall e he hb) j hj
              rw [hjv] at this
              cases this
        have hol := getl.1 ho
        have hunf : listed.getD i false = false := by rw [getD_ft (by rw [H.size]; exact hil)]; exact hun
        have hlook : ∀ d ∈ o.looksAt l.toArray, Conc D (getT (lexT l t xs i) d) (a.tmps.getD d undef) := by
          intro d hd'
          by_cases hw : ∃ (j : Nat) (y : Oper), j < n ∧ l[j]? = some y ∧ y.dst = some d
          · obtain ⟨j, y, hj, hy, hd⟩ := hw
            have huq : ∀ (k : Nat) (x : Oper), k < n → l[k]? = some x → x.dst = some d → k = j := fun k x hk hx hxt => hf.uniq k j x y d hk hj (getl.2 hx) (getl.2 hy) hxt hd
            have late : i ≤ j → listed.getD j false = false → Conc D (getT (lexT l t xs i) d) (a.tmps.getD d undef) := by
              intro hij hjf
              rw [lexT_none l t xs d i fun k x hk hx hxt => by have := huq k x (by omega) hx hxt; omega]
              exact H.wait d fun k x hk hx hxt => by rw [huq k x hk hx hxt]; exact hjf
            rcases hf.flow i j o y d hin hj ho (getl.2 hy) hd hd' with h | ⟨h, e, he, hb, hon⟩ | ⟨h, e, he, hb, hon⟩
            · subst h; exact late (Nat.le_refl _) hunf
            · have hjl : listed.getD j false = true := by rw [← hon]; exact hall e he hb
              have := H.done j y d hj hy hd hjl
              rw [lexT_some l t xs d n j y hy hd huq n hj (Nat.le_refl _)] at this
              rw [lexT_some l t xs d n j y hy hd huq i h (by omega)]
              exact this
            · refine late (by omega) ?_
              cases hv : listed.getD j false with
              | false => rfl
              | true =>
                have := H.closed j y hy hv e he hb
                rw [hon, hunf] at this
                cases this
          · have hno : ∀ (k : Nat) (x : Oper), k < n → l[k]? = some x → x.dst ≠ some d := fun k x hk hx hd => hw ⟨k, x, hk, hx, hd⟩
            rw [lexT_none l t xs d i fun k x hk hx => hno k x (by omega) hx]
            exact H.wait d fun k x hk hx hxt => absurd hxt (hno k x hk hx)
        obtain ⟨m, hm1, hm2⟩ := hm i o hin hol
        obtain ⟨q, q1, q2, q3, q4⟩ := H.rel
        have hgetA : ∀ u d, (a.put o.dst u).tmps.getD d undef = if o.dst = some d ∧ d < a.tmps.size then u else a.tmps.getD d undef := by
          intro u d
          cases hdst : o.dst with
          | none => simp [Act.put]
          | some d' =>
            simp only [Act.put, Option.some.injEq]
            by_cases h : d' = d
            · subst h
              by_cases hs : d' < a.tmps.size
              · simp [hs]
              · simp [hs]
            · rw [if_neg (fun hh => h hh.1)]
              simp [Array.getElem?_setIfInBounds_ne h]
        have lset : ∀ j, (listed.setIfInBounds i true).getD j false = true → j ≠ i → listed.getD j false = true := by
          intro j hl hij
          rw [getD_set_ne false (fun h => hij h.symm)] at hl
          exact hl
        have step : ∀ (x : LV) (u : Value) (D' : Cx), (∀ d, o.dst = some d → d < t.length → xs i = x) → Mo D D' → Le B C D' → Fr lim C D' → Conc D' x u →
            (∃ q, q ≤ n ∧ Rel D' B (gs q) ∧ (∀ j, j < n → stp j = true → ((listed.setIfInBounds i true).getD j false = true ↔ j < q)) ∧ ∀ (j r : Nat), j < n → mkr j = some r → (listed.setIfInBounds i true).getD j false = false → D'.ρ[r]? = some none) →
            wpAny P .any l.toArray Q f (listed.setIfInBounds i true) (a.put o.dst u) D'.w := by
          intro x u D' hxi hmo hle hfr hcu hrel
          have hget := hgetA u
          refine ih _ _ D' (by have := left_set (by rw [H.size]; exact hil) hun; omega) ⟨by simpa using H.size, ?_, ?_, ?_, ?_, hle, hfr, hrel, ?_, ?_⟩
          · intro j y hy hl e he' hb
            by_cases hij : j = i
            · subst hij
              rw [hy] at hol
              obtain rfl := Option.some.inj hol
              exact getD_set_true (hall e he' hb)
            · exact getD_set_true (H.closed j y hy (lset j hl hij) e he' hb)
          · intro d hd hdl
            rw [getD_set_ne true (by omega)]
            exact H.tail d hd hdl
          · rw [put_defers]; exact H.defers
          · cases hdst : o.dst <;> simp [Act.put, H.tsize]
          · intro j y d hj hy hd hl
            rw [hget]
            by_cases hij : j = i
            · subst hij
              rw [hy] at hol
              obtain rfl := Option.some.inj hol
              have huq : ∀ (k : Nat) (x : Oper), k < n → l[k]? = some x → x.dst = some d → k = j := fun k x hk hx hxt => hf.uniq k j x y d hk hj (getl.2 hx) (getl.2 hy) hxt hd
              rw [lexT_some l t xs d n j y hy hd huq n hj (Nat.le_refl _)]
              by_cases hs : d < t.length
              · rw [if_pos hs, if_pos ⟨hd, by rw [H.tsize, ← hlen]; exact hs⟩, hxi d hd hs]
                exact hcu
              · rw [if_neg hs]; exact .bad _
            · rw [if_neg]
              · exact (H.done j y d hj hy hd (lset j hl hij)).mo hmo
              · rintro ⟨hdo, _⟩
                exact hij (hf.uniq j i y o d hj hin (getl.2 hy) ho hd hdo)
          · intro d hno
            have hdo : o.dst ≠ some d := fun hd => by
              have := hno i o hin hol hd
              rw [show (listed.setIfInBounds i true).getD i false = true by simp [H.size, hil]] at this
              cases this
            rw [hget, if_neg (fun h => hdo h.1)]
            refine (H.wait d fun j y hj hy hd => ?_).mo hmo
            have hij : i ≠ j := fun h => by
              subst h
              rw [hy] at hol
              obtain rfl := Option.some.inj hol
              exact hdo hd
            have := hno j y hj hy hd
            rwa [getD_set_ne false hij] at this
        -- what is listed of the stores
        have lq : stp i = false → ∀ j, j < n → stp j = true → ((listed.setIfInBounds i true).getD j false = true ↔ j < q) := by
          intro hsi j hj hsj
          have hij : i ≠ j := fun h => by subst h; rw [hsi] at hsj; cases hsj
          rw [getD_set_ne false hij]
          exact q3 j hj hsj
        -- what is not there yet
        have lunf : ∀ j, (listed.setIfInBounds i true).getD j false = false → listed.getD j false = false := by
          intro j hl
          cases hv : listed.getD j false with
          | false => rfl
          | true => rw [getD_set_true hv] at hl; cases hl
        have lne : ∀ j, (listed.setIfInBounds i true).getD j false = false → j ≠ i := by
          intro j hl hji
          subst hji
          rw [show (listed.setIfInBounds j true).getD j false = true by simp [H.size, hil]] at hl
          cases hl
        -- whoever is listed does not wait for what is not
        have nowait : ∀ j, j < q → stp j = true → i ∉ reach l.toArray j := by
          intro j hjq hsj hi'
          have hjn : j < n := by omega
          have hjl := (q3 j hjn hsj).2 hjq
          have := reach_listed (ops := l.toArray) (S := fun k => listed.getD k false = true) (fun k x hx hk e he hb => H.closed k x (getl.1 hx) hk e he hb) (j := j) (o := l[j]) (by simp) (fun e he hb => H.closed j l[j] (by simp) hjl e he hb) i hi'
          rw [hunf] at this
          cases this
        rcases hm2 with ⟨hsi, hmk, hqo, _, hev⟩ | ⟨hsi, _, r, d, mx, my, z, esz, bytes, k1, k2, c, hmk, rfl, hex, hey, c1, c2, c3, htn, hrow⟩ | ⟨hsi, hmk, hev⟩
        · obtain ⟨x, hx1, hx2⟩ := mi_any (C := D) (B := B) (quiet := true) hcal hm1 (fun _ => hqo) hlook q2 (hev q q1 nowait)
          have hxi := hxs i o x hin hol hx1
          unfold wpOp
          simp only [ho]
          rcases hx2 with ⟨hw, hdn⟩ | ⟨hw, hxu, _⟩
          · rw [hw, if_pos rfl]
            refine .inl (done_wp hdn fun u w' hpo => ?_)
            obtain ⟨C', rfl, c1, c2, c3, c4, c5⟩ := hpo
            obtain ⟨_, d1, d2, d3⟩ := c5 rfl
            have hX : C'.X = D.X := c3.X
            have hC' : C' = { D with w := C'.w } := by
              cases C'
              simp only at d1 d2 hX ⊢
              subst d1; subst d2; subst hX
              rfl
            refine step x u C' hxi c3.mo (H.le.trans c3) (H.fr.trans c4) c1 ⟨q, q1, ?_, lq hsi, fun j r hj hr hl => c3.hole r (q4 j r hj hr (lunf j hl))⟩
            rw [hC']
            exact q2.grow d3
          · rw [hw, if_neg (by simp)]
            exact step x undef D hxi (Le.refl B D).mo H.le H.fr (by rw [hxu]; exact .v _) ⟨q, q1, q2, lq hsi, fun j r hj hr hl => q4 j r hj hr (lunf j hl)⟩
        · -- a slice is made
          have hdst : o.dst = some d := (cI_dst' hm1).symm
          obtain ⟨hop, hg⟩ := cI_parts hm1
          obtain ⟨ty, x, y, e, zz, inf, ho1, hu, hz, hi', hzs, h0, hcx, hcy, rfl, rfl, rfl⟩ := mks_inv hop
          have hx1 := cO_ev (C := D) (a := a) x mx hcx (t := lexT l t xs i) fun k hk => hlook k (by
            subst hk
            exact List.mem_append_left _ (List.mem_filterMap.2 ⟨.tmp k, by rw [ho1]; simp [Op.operands], rfl⟩))
          have hy1 := cO_ev (C := D) (a := a) y my hcy (t := lexT l t xs i) fun k hk => hlook k (by
            subst hk
            exact List.mem_append_left _ (List.mem_filterMap.2 ⟨.tmp k, by rw [ho1]; simp [Op.operands], rfl⟩))
          rw [hex] at hx1
          rw [hey] at hy1
          obtain ⟨us, hrun, hus, hcon⟩ := mks_run (C := D) (a := a) ho1 hu hz hi' hzs h0 hx1.v_inv hy1.v_inv c1 c2 c3
          have hhole := q4 i r hin hmk hunf
          obtain ⟨f1, f2, f3, f4⟩ := Rel.fill (lim := lim) (ty := e) q2 hhole (hrow q q1 nowait) hcon
          have hw : Region.wanted o (yielded l.toArray a.tmps) = true := by simp [Region.wanted, hg]
          have hxi := hxs i o (.sl r 0 0 c.toNat inf.size c.toNat) hin hol (by rw [htn, hdst]; rfl)
          unfold wpOp
          simp only [ho]
          rw [hw, if_pos rfl]
          refine .inl ?_
          unfold Oper.wp
          rw [hrun]
          refine step (.sl r 0 0 c.toNat inf.size c.toNat) _ (D.fill r us e) hxi f2 (f3 C (hmr i r hin hmk) H.le) (f4 C H.fr) ?_ ⟨q, q1, f1, lq hsi, fun j r' hj hr hl => ?_⟩
          · have hl : r < D.ρ.length := (List.getElem?_eq_some_iff.1 hhole).1
            have : Conc (D.fill r us e) (.sl r 0 0 c.toNat inf.size c.toNat) (.slice (some ⟨D.w.heap.size, 0 + 0, none⟩) c.toNat c.toNat) := by
              refine Conc.sl (o := 0) ?_ ?_ ⟨Nat.le_refl _, Nat.le_refl _⟩ ⟨us, e, heap_alloc_new D.w _, by rw [hus]; omega⟩
              · show (D.ρ.set r _)[r]? = _
                simp [hl]
              · show D.vs[r]? = _
                rw [q2.vs, List.getElem?_map, hrow q q1 nowait]
                rfl
            exact this
          · have hji := lne j hl
            have hrr : r' ≠ r := fun hh => by subst hh; exact hji (hmi j i r' hj hin hr hmk)
            exact fill_old hrr (q4 j r' hj hr (lunf j hl))
        · -- one that comes in its place: those ahead of it are done, those behind it are not
          have before : ∀ j, j < i → stp j = true → listed.getD j false = true := by
            intro j hji hsj
            exact reach_listed (ops := l.toArray) (S := fun k => listed.getD k false = true) (fun k x hx hk e he hb => H.closed k x (getl.1 hx) hk e he hb) ho (fun e he hb => hall e he hb) j (hord j i hji hin hsj hsi)
          have behind : ∀ j, i < j → j < n → stp j = true → listed.getD j false = false := by
            intro j hij hj hsj
            cases hv : listed.getD j false with
            | false => rfl
            | true =>
              have := reach_listed (ops := l.toArray) (S := fun k => listed.getD k false = true) (fun k x hx hk e he hb => H.closed k x (getl.1 hx) hk e he hb) (j := j) (o := l[j]) (by simp) (fun e he hb => H.closed j l[j] (by simp) hv e he hb) i (hord i j hij hj hsi hsj)
              rw [hunf] at this
              cases this
          have hqi : q ≤ i := by
            rcases Nat.lt_or_ge i q with h | h
            · have := (q3 i hin hsi).2 h
              rw [hunf] at this
              cases this
            · exact h
          have hq : gs i = gs q := by
            have := hs_same (hs := gs) (stp := stp) (n := n) hcs (i - q) q (by omega) fun j h1 h2 => by
              cases hv : stp j with
              | false => rfl
              | true => have := (q3 j (by omega) hv).1 (before j (by omega) hv); omega
            rw [show q + (i - q) = i by omega] at this
            exact this
          have lqs : ∀ j, j < n → stp j = true → ((listed.setIfInBounds i true).getD j false = true ↔ j < i + 1) := by
            intro j hj hsj
            rcases Nat.lt_trichotomy j i with h | h | h
            · exact ⟨fun _ => (by omega), fun _ => getD_set_true (before j h hsj)⟩
            · subst h
              exact ⟨fun _ => (by omega), fun _ => by simp [H.size, hil]⟩
            · rw [getD_set_ne false (by omega), behind j h hj hsj]
              refine ⟨fun h => (by cases h), fun h => ?_⟩
              omega
          rcases hev with hev | ⟨hqo, ⟨h1, hev⟩, hgsame⟩
          · obtain ⟨x, hx1, hx2⟩ := mi_any (C := D) (B := B) (quiet := false) hcal hm1 (fun hh => by cases hh) hlook (by rw [hq]; exact q2) hev
            have hxi := hxs i o x hin hol hx1
            unfold wpOp
            simp only [ho]
            rcases hx2 with ⟨hw, hdn⟩ | ⟨hw, hxu, hh⟩
            · rw [hw, if_pos rfl]
              refine .inl (done_wp hdn fun u w' hpo => ?_)
              obtain ⟨C', rfl, c1, c2, c3, c4, _⟩ := hpo
              exact step x u C' hxi c3.mo (H.le.trans c3) (H.fr.trans c4) c1 ⟨i + 1, by omega, c2, lqs, fun j r hj hr hl => c3.hole r (q4 j r hj hr (lunf j hl))⟩
            · rw [hw, if_neg (by simp)]
              refine step x undef D hxi (Le.refl B D).mo H.le H.fr (by rw [hxu]; exact .v _) ⟨i + 1, by omega, ?_, lqs, fun j r hj hr hl => q4 j r hj hr (lunf j hl)⟩
              rw [hh, hq]; exact q2
          · obtain ⟨x, hx1, hx2⟩ := mi_any (C := D) (B := B) (quiet := true) hcal hm1 (fun _ => hqo) hlook (by rw [hq]; exact q2) hev
            have hxi := hxs i o x hin hol hx1
            unfold wpOp
            simp only [ho]
            rcases hx2 with ⟨hw, hdn⟩ | ⟨hw, hxu, hh⟩
            · rw [hw, if_pos rfl]
              refine .inl (done_wp hdn fun u w' hpo => ?_)
              obtain ⟨C', rfl, c1, c2, c3, c4, c5⟩ := hpo
              obtain ⟨hh1, _⟩ := c5 rfl
              exact step x u C' hxi c3.mo (H.le.trans c3) (H.fr.trans c4) c1 ⟨i + 1, by omega, by rw [hgsame]; rw [hh1] at c2; exact c2, lqs, fun j r hj hr hl => c3.hole r (q4 j r hj hr (lunf j hl))⟩
            · rw [hw, if_neg (by simp)]
              refine step x undef D hxi (Le.refl B D).mo H.le H.fr (by rw [hxu]; exact .v _) ⟨i + 1, by omega, ?_, lqs, fun j r hj hr hl => q4 j r hj hr (lunf j hl)⟩
              rw [hgsame, hq]; exact q2
end
end Go.Proofs.Ytjgnjpbplnmdmaa
