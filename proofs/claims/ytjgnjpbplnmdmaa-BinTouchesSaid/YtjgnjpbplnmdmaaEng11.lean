/- Codes and functions: what the evaluator comes to is what the machine's call hands back. -/
import Derived.Test.YtjgnjpbplnmdmaaEng10
import Derived.Scope
namespace Go.Proofs.Ytjgnjpbplnmdmaa
open Go Go.RowKit

/-- The first n rows alone. -/
def Cx.trunc (C : Cx) (n : Nat) : Cx := { C with ρ := C.ρ.take n, vs := C.vs.take n }

theorem trunc_own {C : Cx} {n b : Nat} (h : (C.trunc n).own b) : C.own b := by
  obtain ⟨k, q, hk⟩ := h
  have hk' : (C.ρ.take n)[k]? = some (some (b, q)) := hk
  rw [List.getElem?_take] at hk'
  split at hk'
  · exact ⟨k, q, hk'⟩
  · simp at hk'

theorem purgeL_get (n : Nat) : ∀ (cs : List LV) (i : Nat), (purgeL n cs)[i]? = (cs[i]?).map (purge n)
  | [], i => by simp [purgeL]
  | x :: l, i => by
    cases i with
    | zero => simp [purgeL]
    | succ i => simp [purgeL, purgeL_get n l i]

theorem purgeL_length (n : Nat) : ∀ (cs : List LV), (purgeL n cs).length = cs.length
  | [] => rfl
  | x :: l => by simp [purgeL, purgeL_length n l]

theorem purge_conc {C : Cx} (n : Nat) {l : LV} {u : Value} (hc : Conc C l u) : Conc (C.trunc n) (purge n l) u := by
  induction hc with
  | v x => exact .v x
  | p h1 h2 =>
    simp only [purge]
    split
    · rename_i hk
      exact .p (by show (C.ρ.take n)[_]? = _; rw [List.getElem?_take, if_pos hk]; exact h1) (by show (C.vs.take n)[_]? = _; rw [List.getElem?_take, if_pos hk]; exact h2)
    · exact .bad _
  | pOld h1 h2 =>
    simp only [purge]
    split
    · rename_i hk
      exact .pOld (by show (C.vs.take n)[_]? = _; rw [List.getElem?_take, if_pos hk]; exact h1) h2
    · exact .bad _
  | f h1 _ ih =>
    simp only [purge]
    exact .f (by rw [purgeL_length]; exact h1) fun i c u e1 e2 => by
      rw [purgeL_get] at e1
      obtain ⟨x, hx, rfl⟩ := Option.map_eq_some_iff.1 e1
      exact ih i x u hx e2
  | sl h1 h2 h3 h4 =>
    simp only [purge]
    split
    · rename_i hk
      exact .sl (by show (C.ρ.take n)[_]? = _; rw [List.getElem?_take, if_pos hk]; exact h1) (by show (C.vs.take n)[_]? = _; rw [List.getElem?_take, if_pos hk]; exact h2) h3 h4
    · exact .bad _
  | slOld h1 h2 =>
    simp only [purge]
    split
    · rename_i hk
      exact .slOld (by show (C.vs.take n)[_]? = _; rw [List.getElem?_take, if_pos hk]; exact h1) h2
    · exact .bad _
  | im us h1 h2 h3 _ ih =>
    simp only [purge]
    refine .im us h1 h2 (fun i e he => ?_) fun i e he => ?_
    · rw [purgeL_get] at he
      obtain ⟨x, hx, rfl⟩ := Option.map_eq_some_iff.1 he
      obtain ⟨a1, a2, a3⟩ := h3 i x hx
      exact ⟨fun h => a1 (trunc_own h), a2, a3⟩
    · rw [purgeL_get] at he
      obtain ⟨x, hx, rfl⟩ := Option.map_eq_some_iff.1 he
      exact ih i x hx
  | pi us h3 _ ih =>
    simp only [purge]
    refine .pi us (fun i e he => ?_) fun i e he => ?_
    · rw [purgeL_get] at he
      obtain ⟨x, hx, rfl⟩ := Option.map_eq_some_iff.1 he
      obtain ⟨a1, a2, a3⟩ := h3 i x hx
      exact ⟨fun h => a1 (trunc_own h), a2, a3⟩
    · rw [purgeL_get] at he
      obtain ⟨x, hx, rfl⟩ := Option.map_eq_some_iff.1 he
      exact ih i x hx
  | agg h1 _ ih =>
    simp only [purge]
    exact .agg (by rw [purgeL_length]; exact h1) fun i c u e1 e2 => by
      rw [purgeL_get] at e1
      obtain ⟨x, hx, rfl⟩ := Option.map_eq_some_iff.1 e1
      exact ih i x u hx e2
  | tup h1 _ ih =>
    simp only [purge]
    exact .tup (by rw [purgeL_length]; exact h1) fun i c u e1 e2 => by
      rw [purgeL_get] at e1
      obtain ⟨x, hx, rfl⟩ := Option.map_eq_some_iff.1 e1
      exact ih i x u hx e2
  | ifc _ ih => simp only [purge]; exact .ifc ih
  | bad u => exact .bad u

theorem getT_eq (t : List LV) : ∀ i, getT t i = (t[i]?).getD .bad := by
  induction t with
  | nil => intro i; cases i <;> rfl
  | cons x t ih => intro i; cases i with
    | zero => rfl
    | succ i => simp [getT, ih]

theorem forget_rel {C : Cx} {a : Act} : ∀ (fg : List Nat) (t : List LV), TmpR C t a → TmpR C (forget fg t) a
  | [], _, h => h
  | d :: fg, t, h => forget_rel fg _ ⟨by rw [setT_length]; exact h.1, fun i => by
      rw [getT_set]
      split
      · exact .bad _
      · exact h.2 i⟩

section
variable {P : Program} {cal : Callee} {Q : Exit → Act → World → Prop} {lim B : Nat} {h h' : List Row} {a : Act} {t t' : List LV} {C : Cx}

theorem clean_rel {C1 : Cx} {s : St} (fg : List Nat) (n : Nat) (ht : TmpR C1 s.1 a) (hr : Rel C1 B s.2) (hle : Le B C C1) (hfr : Fr lim C C1) (hn : C.ρ.length = n) (hv : C.vs.length = n) :
    ∃ C2 : Cx, C2.w = C1.w ∧ TmpR C2 (clean fg n lim s).1 a ∧ Rel C2 B (clean fg n lim s).2 ∧ Le B C C2 ∧ Fr lim C C2 := by
  unfold clean
  split
  · refine ⟨C1.trunc n, rfl, ?_, ?_, ?_, ?_⟩
    · have hf := forget_rel fg s.1 ht
      refine ⟨by rw [purgeL_length]; exact hf.1, fun i => ?_⟩
      rw [getT_eq, purgeL_get]
      have h2 := hf.2 i
      rw [getT_eq] at h2
      cases hi : (forget fg s.1)[i]? with
      | none => exact .bad _
      | some x => rw [hi] at h2; exact purge_conc n h2
    · refine ⟨by simp [Cx.trunc, hr.len], ?_, ?_, ?_, fun b hx => ⟨(hr.X b hx).1, fun hh => (hr.X b hx).2 (trunc_own hh)⟩, hr.size⟩
      · simp only [Cx.trunc, hr.vs, List.map_map, List.map_take]
        rfl
      · intro k k' b o o' e1 e2
        have e1' : (C1.ρ.take n)[k]? = some (some (b, o)) := e1
        have e2' : (C1.ρ.take n)[k']? = some (some (b, o')) := e2
        rw [List.getElem?_take] at e1' e2'
        split at e1' <;> split at e2' <;> first | exact hr.inj k k' b o o' e1' e2' | (simp at e1' e2'; done) | (simp at e2'; done) | (simp at e1'; done)
      · intro k b o r e1 e2
        have e1' : (C1.ρ.take n)[k]? = some (some (b, o)) := e1
        rw [List.getElem?_take] at e1'
        split at e1'
        · rename_i hk
          simp only [List.getElem?_map, List.getElem?_take, if_pos hk] at e2
          obtain ⟨r0, hr0, rfl⟩ := Option.map_eq_some_iff.1 e2
          obtain ⟨x1, us, tt, x2, x3, x4⟩ := hr.row k b o r0 e1' hr0
          refine ⟨x1, us, tt, x2, by simp only [purgeL_length]; exact x3, fun i c hi => ?_⟩
          simp only [purgeL_get] at hi
          obtain ⟨y, hy, rfl⟩ := Option.map_eq_some_iff.1 hi
          obtain ⟨u, y1, y2⟩ := x4 i y hy
          exact ⟨u, y1, purge_conc n y2⟩
        · simp at e1'
    · refine ⟨hle.X, fun k ver b o e1 e2 => ?_, fun k cur e => ?_, fun b off u e1 e2 e3 => ?_, hle.below, fun k e => by
        have hk : k < n := by rw [← hn]; exact (List.getElem?_eq_some_iff.1 e).1
        show (C1.ρ.take n)[k]? = _
        rw [List.getElem?_take, if_pos hk]; exact hle.hole k e⟩
      · have hk : k < n := by rw [← hn]; exact (List.getElem?_eq_some_iff.1 e1).1
        rcases hle.cur k ver b o e1 e2 with ⟨x1, x2, x3⟩ | ⟨cur, x1, x2⟩
        · exact .inl ⟨by show (C1.ρ.take n)[k]? = _; rw [List.getElem?_take, if_pos hk]; exact x1, by show (C1.vs.take n)[k]? = _; rw [List.getElem?_take, if_pos hk]; exact x2, x3⟩
        · exact .inr ⟨cur, by show (C1.vs.take n)[k]? = _; rw [List.getElem?_take, if_pos hk]; exact x1, x2⟩
      · have hk : k < n := by rw [← hv]; exact (List.getElem?_eq_some_iff.1 e).1
        obtain ⟨c, x1, x2⟩ := hle.old k cur e
        exact ⟨c, by show (C1.vs.take n)[k]? = _; rw [List.getElem?_take, if_pos hk]; exact x1, x2⟩
      · obtain ⟨x1, x2⟩ := hle.cell b off u e1 e2 e3
        exact ⟨x1, fun h => x2 (trunc_own h)⟩
    · refine ⟨hfr.same, fun k b o e1 e2 e3 => ?_, hfr.size⟩
      have e2' : (C1.ρ.take n)[k]? = some (some (b, o)) := e2
      rw [List.getElem?_take] at e2'
      split at e2'
      · exact hfr.old k b o e1 e2' e3
      · simp at e2'
  · exact ⟨C1, rfl, forget_rel fg s.1 ht, hr, hle, hfr⟩

theorem kpurgeL_get (n : Nat) (K : List Nat) : ∀ (cs : List LV) (i : Nat), (kpurgeL n K cs)[i]? = (cs[i]?).map (kpurge n K)
  | [], i => by simp [kpurgeL]
  | x :: l, i => by
    cases i with
    | zero => simp [kpurgeL]
    | succ i => simp [kpurgeL, kpurgeL_get n K l i]

theorem kpurgeL_length (n : Nat) (K : List Nat) : ∀ (cs : List LV), (kpurgeL n K cs).length = cs.length
  | [] => rfl
  | x :: l => by simp [kpurgeL, kpurgeL_length n K l]

/-- The first n rows, and those that are kept. -/
def Cx.kept (C : Cx) (n : Nat) (K : List Nat) : Cx := { C with ρ := C.ρ.take n ++ K.map (fun k => C.ρ.getD k none), vs := C.vs.take n ++ K.map (fun k => C.vs.getD k 0) }

theorem posn_get : ∀ {K : List Nat} {k j : Nat}, posn K k = some j → K[j]? = some k
  | [], _, _, h => by simp [posn] at h
  | x :: K, k, j, h => by
    unfold posn at h
    split at h
    · rename_i hx; simp at h; subst h; subst hx; rfl
    · obtain ⟨j', h1, rfl⟩ := Option.map_eq_some_iff.1 h
      simpa using posn_get h1

theorem kept_own {C : Cx} {n b : Nat} {K : List Nat} (hK : ∀ k ∈ K, k < C.ρ.length) (h : (C.kept n K).own b) : C.own b := by
  obtain ⟨k, q, hk⟩ := h
  have hk' : (C.ρ.take n ++ K.map (fun k => C.ρ.getD k none))[k]? = some (some (b, q)) := hk
  rw [List.getElem?_append] at hk'
  split at hk'
  · rw [List.getElem?_take] at hk'
    split at hk'
    · exact ⟨k, q, hk'⟩
    · simp at hk'
  · simp only [List.getElem?_map, Option.map_eq_some_iff] at hk'
    obtain ⟨k', h1, h2⟩ := hk'
    have hlt := hK k' (List.mem_of_getElem? h1)
    exact ⟨k', q, by simpa [hlt] using h2⟩

theorem kpurge_conc {C : Cx} (n : Nat) (K : List Nat) (hn : n ≤ C.ρ.length) (hv : C.vs.length = C.ρ.length) (hK : ∀ k ∈ K, k < C.ρ.length) {l : LV} {u : Value} (hc : Conc C l u) : Conc (C.kept n K) (kpurge n K l) u := by
  have low : ∀ {k : Nat} {x : Option (Nat × Nat)}, k < n → C.ρ[k]? = some x → (C.kept n K).ρ[k]? = some x := by
    intro k x hk h
    show (C.ρ.take n ++ _)[k]? = _
    rw [List.getElem?_append_left (by simp; omega), List.getElem?_take, if_pos hk]; exact h
  have lowv : ∀ {k x : Nat}, k < n → C.vs[k]? = some x → (C.kept n K).vs[k]? = some x := by
    intro k x hk h
    show (C.vs.take n ++ _)[k]? = _
    rw [List.getElem?_append_left (by simp; omega), List.getElem?_take, if_pos hk]; exact h
  have high : ∀ {k j : Nat} {x : Option (Nat × Nat)}, posn K k = some j → C.ρ[k]? = some x → (C.kept n K).ρ[n + j]? = some x := by
    intro k j x hj h
    show (C.ρ.take n ++ _)[n + j]? = _
    rw [List.getElem?_append_right (by simp; omega)]
    simp only [List.length_take, Nat.min_eq_left hn, Nat.add_sub_cancel_left, List.getElem?_map, posn_get hj, Option.map_some]
    simp [h]
  have highv : ∀ {k j x : Nat}, posn K k = some j → C.vs[k]? = some x → (C.kept n K).vs[n + j]? = some x := by
    intro k j x hj h
    show (C.vs.take n ++ _)[n + j]? = _
    rw [List.getElem?_append_right (by simp; omega)]
    simp only [List.length_take, hv, Nat.min_eq_left hn, Nat.add_sub_cancel_left, List.getElem?_map, posn_get hj, Option.map_some]
    simp [h]
  induction hc with
  | v x => exact .v x
  | p h1 h2 =>
    simp only [kpurge]
    split
    · rename_i hk; exact .p (low hk h1) (lowv hk h2)
    · exact .bad _
  | pOld h1 h2 =>
    simp only [kpurge]
    split
    · rename_i hk; exact .pOld (lowv hk h1) h2
    · exact .bad _
  | f h1 _ ih =>
    simp only [kpurge]
    exact .f (by rw [kpurgeL_length]; exact h1) fun i c u e1 e2 => by
      rw [kpurgeL_get] at e1
      obtain ⟨x, hx, rfl⟩ := Option.map_eq_some_iff.1 e1
      exact ih i x u hx e2
  | sl h1 h2 h3 h4 =>
    simp only [kpurge]
    split
    · rename_i hk; exact .sl (low hk h1) (lowv hk h2) h3 h4
    · split
      · rename_i j hj; exact .sl (high hj h1) (highv hj h2) h3 h4
      · exact .bad _
  | slOld h1 h2 =>
    simp only [kpurge]
    split
    · rename_i hk; exact .slOld (lowv hk h1) h2
    · split
      · rename_i j hj; exact .slOld (highv hj h1) h2
      · exact .bad _
  | im us h1 h2 h3 _ ih =>
    simp only [kpurge]
    refine .im us h1 h2 (fun i e he => ?_) fun i e he => ?_
    · rw [kpurgeL_get] at he
      obtain ⟨x, hx, rfl⟩ := Option.map_eq_some_iff.1 he
      obtain ⟨a1, a2, a3⟩ := h3 i x hx
      exact ⟨fun h => a1 (kept_own hK h), a2, a3⟩
    · rw [kpurgeL_get] at he
      obtain ⟨x, hx, rfl⟩ := Option.map_eq_some_iff.1 he
      exact ih i x hx
  | pi us h3 _ ih =>
    simp only [kpurge]
    refine .pi us (fun i e he => ?_) fun i e he => ?_
    · rw [kpurgeL_get] at he
      obtain ⟨x, hx, rfl⟩ := Option.map_eq_some_iff.1 he
      obtain ⟨a1, a2, a3⟩ := h3 i x hx
      exact ⟨fun h => a1 (kept_own hK h), a2, a3⟩
    · rw [kpurgeL_get] at he
      obtain ⟨x, hx, rfl⟩ := Option.map_eq_some_iff.1 he
      exact ih i x hx
  | agg h1 _ ih =>
    simp only [kpurge]
    exact .agg (by rw [kpurgeL_length]; exact h1) fun i c u e1 e2 => by
      rw [kpurgeL_get] at e1
      obtain ⟨x, hx, rfl⟩ := Option.map_eq_some_iff.1 e1
      exact ih i x u hx e2
  | tup h1 _ ih =>
    simp only [kpurge]
    exact .tup (by rw [kpurgeL_length]; exact h1) fun i c u e1 e2 => by
      rw [kpurgeL_get] at e1
      obtain ⟨x, hx, rfl⟩ := Option.map_eq_some_iff.1 e1
      exact ih i x u hx e2
  | ifc _ ih => simp only [kpurge]; exact .ifc ih
  | bad u => exact .bad u

theorem keepK_spec (n : Nat) (S : List Nat) : ∀ j, (∀ k ∈ keepK n S j, n ≤ k ∧ k < n + j) ∧ (keepK n S j).Nodup
  | 0 => by simp [keepK]
  | j + 1 => by
    obtain ⟨h1, h2⟩ := keepK_spec n S j
    unfold keepK
    split
    · refine ⟨fun k hk => ?_, ?_⟩
      · rcases List.mem_append.1 hk with hk | hk
        · have := h1 k hk; omega
        · simp at hk; omega
      · rw [List.nodup_append]
        refine ⟨h2, by simp, fun a ha b hb => ?_⟩
        have := h1 a ha
        simp at hb
        omega
    · rw [List.append_nil]
      exact ⟨fun k hk => by have := h1 k hk; omega, h2⟩

theorem cleanK_rel {C1 : Cx} {s : St} (kp fg : List Nat) (n : Nat) (ht : TmpR C1 s.1 a) (hr : Rel C1 B s.2) (hle : Le B C C1) (hfr : Fr lim C C1) (hn : C.ρ.length = n) (hv : C.vs.length = n) :
    ∃ C2 : Cx, C2.w = C1.w ∧ TmpR C2 (cleanK kp fg n lim s).1 a ∧ Rel C2 B (cleanK kp fg n lim s).2 ∧ Le B C C2 ∧ Fr lim C C2 := by
  unfold cleanK
  split
  · rename_i hc
    obtain ⟨k1, k2⟩ := keepK_spec n (trefs kp (forget fg s.1) ++ rrefs (s.2.take n)) (s.2.length - n)
    generalize keepK n (trefs kp (forget fg s.1) ++ rrefs (s.2.take n)) (s.2.length - n) = K at *
    have hnl : n ≤ C1.ρ.length := by rw [hr.len]; omega
    have hvl : C1.vs.length = C1.ρ.length := by rw [hr.vs, hr.len]; simp
    have hK : ∀ k ∈ K, k < C1.ρ.length := fun k hk => by have := k1 k hk; rw [hr.len]; omega
    have hKh : ∀ k ∈ K, k < s.2.length := fun k hk => by have := k1 k hk; omega
    have split : ∀ (k : Nat) (x : Option (Nat × Nat)), (C1.kept n K).ρ[k]? = some x → (k < n ∧ C1.ρ[k]? = some x) ∨ (n ≤ k ∧ ∃ k', K[k - n]? = some k' ∧ C1.ρ[k']? = some x) := by
      intro k x e
      have e' : (C1.ρ.take n ++ K.map (fun k => C1.ρ.getD k none))[k]? = some x := e
      rw [List.getElem?_append] at e'
      have hl : (C1.ρ.take n).length = n := by simp; omega
      rw [hl] at e'
      split at e'
      · rename_i hk
        rw [List.getElem?_take, if_pos hk] at e'
        exact .inl ⟨hk, e'⟩
      · rename_i hk
        simp only [List.getElem?_map, Option.map_eq_some_iff] at e'
        obtain ⟨k', h1, h2⟩ := e'
        have hlt := hK k' (List.mem_of_getElem? h1)
        exact .inr ⟨by omega, k', h1, by simpa [hlt] using h2⟩
    refine ⟨C1.kept n K, rfl, ?_, ?_, ?_, ?_⟩
    · have hf := forget_rel fg s.1 ht
      refine ⟨by show (kpurgeL n K _).length = _; rw [kpurgeL_length]; exact hf.1, fun i => ?_⟩
      show Conc _ (getT (kpurgeL n K (forget fg s.1)) i) _
      rw [getT_eq, kpurgeL_get]
      have h2 := hf.2 i
      rw [getT_eq] at h2
      cases hi : (forget fg s.1)[i]? with
      | none => exact .bad _
      | some x => rw [hi] at h2; exact kpurge_conc n K hnl hvl hK h2
    · have hrow : ∀ (k : Nat) r, ((s.2.take n).map (fun r => (⟨r.ver, kpurgeL n K r.cells⟩ : Row)) ++ K.map (rowK n K s.2))[k]? = some r → ∃ k' r0, s.2[k']? = some r0 ∧ r = ⟨r0.ver, kpurgeL n K r0.cells⟩ ∧ ((k < n ∧ k' = k) ∨ (n ≤ k ∧ K[k - n]? = some k')) := by
        intro k r e
        rw [List.getElem?_append] at e
        have hl : ((s.2.take n).map (fun r => (⟨r.ver, kpurgeL n K r.cells⟩ : Row))).length = n := by simp; omega
        rw [hl] at e
        split at e
        · rename_i hk
          simp only [List.getElem?_map, List.getElem?_take, if_pos hk] at e
          obtain ⟨r0, hr0, rfl⟩ := Option.map_eq_some_iff.1 e
          exact ⟨k, r0, hr0, rfl, .inl ⟨hk, rfl⟩⟩
        · rename_i hk
          simp only [List.getElem?_map, Option.map_eq_some_iff] at e
          obtain ⟨k', h1, rfl⟩ := e
          have hlt := hKh k' (List.mem_of_getElem? h1)
          refine ⟨k', s.2[k'], by simp [hlt], ?_, .inr ⟨by omega, h1⟩⟩
          simp [rowK, hlt]
      refine ⟨?_, ?_, ?_, ?_, fun b hx => ⟨(hr.X b hx).1, fun hh => (hr.X b hx).2 (kept_own hK hh)⟩, hr.size⟩
      · show (C1.ρ.take n ++ K.map _).length = ((s.2.take n).map _ ++ K.map _).length
        simp [hr.len]
      · show C1.vs.take n ++ K.map (fun k => C1.vs.getD k 0) = ((s.2.take n).map (fun r => (⟨r.ver, kpurgeL n K r.cells⟩ : Row)) ++ K.map (rowK n K s.2)).map Row.ver
        rw [List.map_append, List.map_map, List.map_map, hr.vs, List.map_take]
        congr 1
        apply List.map_congr_left
        intro k hk
        have hlt := hKh k hk
        simp [rowK, hlt]
      · intro k k' b o o' e1 e2
        rcases split k _ e1 with ⟨a1, a2⟩ | ⟨a1, x, a2, a3⟩ <;> rcases split k' _ e2 with ⟨b1, b2⟩ | ⟨b1, y, b2, b3⟩
        · exact hr.inj k k' b o o' a2 b2
        · have := hr.inj k y b o o' a2 b3
          have := k1 y (List.mem_of_getElem? b2)
          omega
        · have := hr.inj x k' b o o' a3 b2
          have := k1 x (List.mem_of_getElem? a2)
          omega
        · have hxy := hr.inj x y b o o' a3 b3
          subst hxy
          have hi := (List.getElem?_eq_some_iff.1 a2).1
          have := (List.getElem?_inj hi k2).1 (a2.trans b2.symm)
          omega
      · intro k b o r e1 e2
        obtain ⟨k', r0, h1, rfl, h2⟩ := hrow k r e2
        have hρ : C1.ρ[k']? = some (some (b, o)) := by
          rcases split k _ e1 with ⟨a1, a2⟩ | ⟨a1, x, a2, a3⟩ <;> rcases h2 with ⟨b1, rfl⟩ | ⟨b1, b2⟩
          · exact a2
          · omega
          · omega
          · rw [a2] at b2; cases b2; exact a3
        obtain ⟨x1, us, tt, x2, x3, x4⟩ := hr.row k' b o r0 hρ h1
        refine ⟨x1, us, tt, x2, by simp only [kpurgeL_length]; exact x3, fun i c hi => ?_⟩
        simp only [kpurgeL_get] at hi
        obtain ⟨y, hy, rfl⟩ := Option.map_eq_some_iff.1 hi
        obtain ⟨u, y1, y2⟩ := x4 i y hy
        exact ⟨u, y1, kpurge_conc n K hnl hvl hK y2⟩
    · have low : ∀ {k : Nat} {x : Option (Nat × Nat)}, k < n → C1.ρ[k]? = some x → (C1.kept n K).ρ[k]? = some x := by
        intro k x hk h
        show (C1.ρ.take n ++ _)[k]? = _
        rw [List.getElem?_append_left (by simp; omega), List.getElem?_take, if_pos hk]; exact h
      have lowv : ∀ {k x : Nat}, k < n → C1.vs[k]? = some x → (C1.kept n K).vs[k]? = some x := by
        intro k x hk h
        show (C1.vs.take n ++ _)[k]? = _
        rw [List.getElem?_append_left (by simp; omega), List.getElem?_take, if_pos hk]; exact h
      refine ⟨hle.X, fun k ver b o e1 e2 => ?_, fun k cur e => ?_, fun b off u e1 e2 e3 => ?_, hle.below, fun k e => low (by rw [← hn]; exact (List.getElem?_eq_some_iff.1 e).1) (hle.hole k e)⟩
      · have hk : k < n := by rw [← hn]; exact (List.getElem?_eq_some_iff.1 e1).1
        rcases hle.cur k ver b o e1 e2 with ⟨x1, x2, x3⟩ | ⟨cur, x1, x2⟩
        · exact .inl ⟨low hk x1, lowv hk x2, x3⟩
        · exact .inr ⟨cur, lowv hk x1, x2⟩
      · have hk : k < n := by rw [← hv]; exact (List.getElem?_eq_some_iff.1 e).1
        obtain ⟨c, x1, x2⟩ := hle.old k cur e
        exact ⟨c, lowv hk x1, x2⟩
      · obtain ⟨x1, x2⟩ := hle.cell b off u e1 e2 e3
        exact ⟨x1, fun h => x2 (kept_own hK h)⟩
    · refine ⟨hfr.same, fun k b o e1 e2 e3 => ?_, hfr.size⟩
      rcases split k _ e2 with ⟨a1, a2⟩ | ⟨a1, x, a2, a3⟩
      · exact hfr.old k b o e1 a2 e3
      · exact hfr.old x b o (by rw [hc.1]; omega) a3 e3
  · exact ⟨C1, rfl, forget_rel fg s.1 ht, hr, hle, hfr⟩

def exOf : Ex → Exit
  | .nrm => .normal
  | .ret => .ret
  | .exit i => .exit i

/-- What stands behind a code: how it is left, and what then holds. -/
def CodePost (B lim : Nat) (C : Cx) (e : Ex) (s : St) (e' : Exit) (a' : Act) (w' : World) : Prop := e' = exOf e ∧ StPost B lim C s a' w'

theorem loop_sound {c : Code} {cl : St → St} {f : St → Option (Ex × St)} {e : Ex} {s' : St}
    (hcl : ∀ (C1 : Cx) (s : St) (a : Act), TmpR C1 s.1 a → Rel C1 B s.2 → Le B C C1 → Fr lim C C1 → ∃ C2 : Cx, C2.w = C1.w ∧ TmpR C2 (cl s).1 a ∧ Rel C2 B (cl s).2 ∧ Le B C C2 ∧ Fr lim C C2)
    (ih : ∀ (s1 s2 : St) (e1 : Ex) (C1 : Cx) (a1 : Act), f s1 = some (e1, s2) → TmpR C1 s1.1 a1 → Rel C1 B s1.2 → a1.defers = [] → c.wp P (CodePost B lim C1 e1 s2) a1 C1.w) :
    ∀ (j : Nat) (s1 : St) (C1 : Cx) (a1 : Act), iter f cl j s1 = some (e, s') → TmpR C1 s1.1 a1 → Rel C1 B s1.2 → a1.defers = [] → Le B C C1 → Fr lim C C1 →
      Code.rounds P c (CodePost B lim C e s') j a1 C1.w := by
  intro j
  induction j with
  | zero => intro s1 C1 a1 he; simp [iter] at he
  | succ j ihj =>
    intro s1 C1 a1 he ht hr hd hle hfr
    obtain ⟨C2, hw, ht2, hr2, hle2, hfr2⟩ := hcl C1 s1 a1 ht hr hle hfr
    rw [rounds_succ, ← hw]
    simp only [iter] at he
    split at he
    · rename_i s2 hf
      refine Code.wp_mono ?_ (ih _ s2 .nrm C2 a1 hf ht2 hr2 hd)
      rintro e' a' w' ⟨rfl, C3, rfl, x1, x2, x3, x4, x5⟩
      exact ihj s2 C3 a' he x1 x2 x5 (hle2.trans x3) (hfr2.trans x4)
    · rename_i s2 hf
      simp only [Option.some.injEq, Prod.mk.injEq] at he
      obtain ⟨rfl, rfl⟩ := he
      refine Code.wp_mono ?_ (ih _ s2 .ret C2 a1 hf ht2 hr2 hd)
      rintro e' a' w' ⟨rfl, hst⟩
      exact ⟨rfl, hst.trans hle2 hfr2⟩
    · rename_i i s2 hf
      simp only [Option.some.injEq, Prod.mk.injEq] at he
      obtain ⟨rfl, rfl⟩ := he
      refine Code.wp_mono ?_ (ih _ s2 (.exit i) C2 a1 hf ht2 hr2 hd)
      rintro e' a' w' ⟨rfl, hst⟩
      exact ⟨rfl, hst.trans hle2 hfr2⟩
    · simp at he

theorem cleanN_rel {C1 : Cx} {s : St} (fg : List Nat) (ht : TmpR C1 s.1 a) (hr : Rel C1 B s.2) (hle : Le B C C1) (hfr : Fr lim C C1) : ∃ C2 : Cx, C2.w = C1.w ∧ TmpR C2 (cleanN fg s).1 a ∧ Rel C2 B (cleanN fg s).2 ∧ Le B C C2 ∧ Fr lim C C2 :=
  ⟨C1, rfl, forget_rel fg s.1 ht, hr, hle, hfr⟩

theorem code_sound (hcal : CalOK P cal) (hmo : P.follows .mixedOrders = true) {md : Bool × List FuncId} {names : Array String} {k : Nat} : ∀ (c : Code) (s s' : St) (e : Ex) (C : Cx) (a : Act), evCode cal k lim (cC P md names c) s = some (e, s') → TmpR C s.1 a → Rel C B s.2 → a.defers = [] →
    c.wp P (CodePost B lim C e s') a C.w := by
  intro c
  induction c with
  | skip =>
    intro s s' e C a he ht hr hd
    simp [cC, evCode] at he
    obtain ⟨rfl, rfl⟩ := he
    exact wp_skip ⟨rfl, C, rfl, ht, hr, Le.refl _ _, Fr.refl _ _, hd⟩
  | label l =>
    intro s s' e C a he ht hr hd
    simp [cC, evCode] at he
    obtain ⟨rfl, rfl⟩ := he
    exact wp_label ⟨rfl, C, rfl, ht, hr, Le.refl _ _, Fr.refl _ _, hd⟩
  | ret =>
    intro s s' e C a he ht hr hd
    simp [cC, evCode] at he
    obtain ⟨rfl, rfl⟩ := he
    exact wp_ret ⟨rfl, C, rfl, ht, hr, Le.refl _ _, Fr.refl _ _, hd⟩
  | exit i =>
    intro s s' e C a he ht hr hd
    simp [cC, evCode] at he
    obtain ⟨rfl, rfl⟩ := he
    exact wp_exit ⟨rfl, C, rfl, ht, hr, Le.refl _ _, Fr.refl _ _, hd⟩
  | region id ops draw =>
    intro s s' e C a he ht hr hd
    simp only [cC] at he
    cases hc : cRegion P md.2 ops draw with
    | none => rw [hc] at he; simp [evCode] at he
    | some mc =>
      rw [hc] at he
      simp only [Option.getD_some] at he
      have := cRegion_sound (id := id) (Q := CodePost B lim C e s') hcal hmo hc he ht hr hd
      by_cases hen : e = .nrm
      · subst hen
        exact (this fun a' w' hst => ⟨rfl, hst⟩).1
      · exact (hen (cRegion_sound (id := id) (Q := fun _ _ _ => True) hcal hmo hc he ht hr hd fun _ _ _ => trivial).2).elim
  | seq x y ihx ihy =>
    intro s s' e C a he ht hr hd
    simp only [cC, evCode] at he
    split at he
    · rename_i s1 hs1
      refine wp_seq (Code.wp_mono ?_ (ihx s s1 .nrm C a hs1 ht hr hd))
      rintro e' a' w' ⟨rfl, C1, rfl, x1, x2, x3, x4, x5⟩
      refine Code.wp_mono ?_ (ihy s1 s' e C1 a' he x1 x2 x5)
      rintro e' a' w' ⟨rfl, hst⟩
      exact ⟨rfl, hst.trans x3 x4⟩
    · rename_i s1 hs1
      simp only [Option.some.injEq, Prod.mk.injEq] at he
      obtain ⟨rfl, rfl⟩ := he
      refine wp_seq (Code.wp_mono ?_ (ihx s s1 .ret C a hs1 ht hr hd))
      rintro e' a' w' ⟨rfl, hst⟩
      exact ⟨rfl, hst⟩
    · rename_i i s1 hs1
      simp only [Option.some.injEq, Prod.mk.injEq] at he
      obtain ⟨rfl, rfl⟩ := he
      refine wp_seq (Code.wp_mono ?_ (ihx s s1 (.exit i) C a hs1 ht hr hd))
      rintro e' a' w' ⟨rfl, hst⟩
      exact ⟨rfl, hst⟩
    · simp at he
  | cond q x y ihx ihy =>
    intro s s' e C a he ht hr hd
    simp only [cC] at he
    split at he
    · rename_i mq hq
      simp only [evCode] at he
      split at he
      · rename_i b hb
        have hcq := cO_ev q mq hq (fun i _ => ht.2 i)
        rw [hb] at hcq
        have hv := hcq.v_inv
        cases b
        · simp only [Bool.false_eq_true, if_false] at he
          exact wp_cond hv (by simpa using ihy s s' e C a he ht hr hd)
        · simp only [if_true] at he
          exact wp_cond hv (by simpa using ihx s s' e C a he ht hr hd)
      · simp at he
    · simp [evCode] at he
  | block id x ih =>
    intro s s' e C a he ht hr hd
    simp only [cC, evCode] at he
    split at he
    · rename_i s1 hs1
      simp only [Option.some.injEq, Prod.mk.injEq] at he
      obtain ⟨rfl, rfl⟩ := he
      refine wp_block (Code.wp_mono ?_ (ih s s1 .nrm C a hs1 ht hr hd))
      rintro e' a' w' ⟨rfl, hst⟩
      exact ⟨rfl, hst⟩
    · rename_i s1 hs1
      simp only [Option.some.injEq, Prod.mk.injEq] at he
      obtain ⟨rfl, rfl⟩ := he
      refine wp_block (Code.wp_mono ?_ (ih s s1 .ret C a hs1 ht hr hd))
      rintro e' a' w' ⟨rfl, hst⟩
      exact ⟨rfl, hst⟩
    · rename_i i s1 hs1
      refine wp_block (Code.wp_mono ?_ (ih s s1 (.exit i) C a hs1 ht hr hd))
      rintro e' a' w' ⟨rfl, hst⟩
      split at he
      · rename_i hi
        simp only [Option.some.injEq, Prod.mk.injEq] at he
        obtain ⟨rfl, rfl⟩ := he
        simp only [exOf, Exit.inBlock, hi, if_true]
        exact ⟨rfl, hst⟩
      · rename_i hi
        simp only [Option.some.injEq, Prod.mk.injEq] at he
        obtain ⟨rfl, rfl⟩ := he
        simp only [exOf, Exit.inBlock, hi, if_false]
        exact ⟨rfl, hst⟩
    · simp at he
  | loop x ih =>
    intro s s' e C a he ht hr hd
    simp only [cC] at he
    have hvl : C.vs.length = s.2.length := by rw [hr.vs]; simp
    split at he
    · simp only [evCode] at he
      exact wp_loop_rounds k (loop_sound (C := C) (cl := cleanN _) (fun C1 s1 a1 h1 h2 h3 h4 => cleanN_rel (C := C) _ h1 h2 h3 h4) (fun s1 s2 e1 C1 a1 h1 h2 h3 h4 => ih s1 s2 e1 C1 a1 h1 h2 h3 h4) k s C a he ht hr hd (Le.refl _ _) (Fr.refl _ _))
    · split at he
      · simp only [evCode] at he
        exact wp_loop_rounds k (loop_sound (C := C) (cl := clean _ s.2.length lim) (fun C1 s1 a1 h1 h2 h3 h4 => clean_rel (C := C) _ _ h1 h2 h3 h4 hr.len hvl) (fun s1 s2 e1 C1 a1 h1 h2 h3 h4 => ih s1 s2 e1 C1 a1 h1 h2 h3 h4) k s C a he ht hr hd (Le.refl _ _) (Fr.refl _ _))
      · simp only [evCode] at he
        exact wp_loop_rounds k (loop_sound (C := C) (cl := cleanK _ _ s.2.length lim) (fun C1 s1 a1 h1 h2 h3 h4 => cleanK_rel (C := C) _ _ _ h1 h2 h3 h4 hr.len hvl) (fun s1 s2 e1 C1 a1 h1 h2 h3 h4 => ih s1 s2 e1 C1 a1 h1 h2 h3 h4) k s C a he ht hr hd (Le.refl _ _) (Fr.refl _ _))
  | rangeFunc f ps x y _ _ => intro s s' e C a he; simp [cC, evCode] at he
  | scope x ih =>
    intro s s' e C a he ht hr hd
    simp only [cC] at he
    refine wp_scope_straight (Code.wp_mono ?_ (ih s s' e C a he ht hr hd))
    rintro e' a' w' ⟨rfl, hst⟩
    cases e <;> exact ⟨rfl, hst⟩
  | goto l => intro s s' e C a he; simp [cC, evCode] at he
  | refuse w => intro s s' e C a he; simp [cC, evCode] at he
end
end Go.Proofs.Ytjgnjpbplnmdmaa
