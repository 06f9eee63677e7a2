/- However the steps of an owner and of thieves come, each number that was pushed is got, once. The plain law: every step of an operation. -/
import Derived.Test.YtjoldlaoncdcgaaDH
set_option linter.unusedSimpArgs false
set_option linter.unusedVariables false
namespace Go.Proofs.Ytjoldlaoncdcgaa
theorem doG_cont {push : List Bool} {G : GM} {t : Nat} {o : AO} (h : (stepO o G.M t).2.w = 0) : doG push G t o = contG G t (stepO o G.M t).1 (stepO o G.M t).2 := by unfold doG; rw [if_pos h]
theorem doG_end {push : List Bool} {G : GM} {t : Nat} {o : AO} (h : (stepO o G.M t).2.w ≠ 0) : doG push G t o = endG push G t (stepO o G.M t).1 (stepO o G.M t).2 := by unfold doG; rw [if_neg h]
theorem doG_c {push : List Bool} {G : GM} {t : Nat} {o o' : AO} {M' : AM} (e : stepO o G.M t = (M', o')) (h : o'.w = 0) : doG push G t o = contG G t M' o' := by unfold doG; rw [e]; exact if_pos h
section
variable {push : List Bool} {c : Nat} {G : GM} {T : Nat} {X : List Int}
theorem PI.thStep (H : PI push c G T X) {t : Nat} (h1 : 0 < t) (h2 : t < G.n) {o : AO} (ho : (G.th t).o = some o) : ∃ T' X', PI push c (doG push G t o) T' X' := by
  obtain ⟨r1, r2⟩ := H.thi t h1 h2 o ho
  have qa := r2.a
  have qc := r2.c
  have qw := r2.w
  have qb := r2.b
  have qt := r2.t
  have qk := r2.tk
  have htop := H.top
  have hbd := H.bd40
  have hr := H.r
  have hav := H.av1
  obtain ⟨a, c', pc, w, tk, b, tt, v⟩ := o
  simp only at qa qc qw qb qt qk
  subst qa qc qw
  cases pc <;> simp only [thOk] at r1
  · rw [doG_cont (by simp [stepO])]
    refine ⟨T, X, H.thCont h1 h2 ho rfl ?_ rfl rfl rfl rfl rfl ?_ ?_ rfl⟩
    · simp only [stepO, thOk, htop]; omega
    · simp only [stepO]; exact qb
    · simp only [stepO, htop]; omega
  · by_cases hx : G.M.av (0 + 1) ≤ tt
    · rw [doG_end (by simp [stepO, hx])]
      exact ⟨T, X, H.thEnd0 h1 rfl (by simp [stepO, hx])⟩
    · rw [doG_c (M' := G.M.load t (0 + 1)) (o' := ⟨0, c', .stealSlot, 0, tk, G.M.av (0 + 1), tt, v⟩) (by simp [stepO, hx]) rfl]
      refine ⟨T, X, H.thCont h1 h2 ho rfl ?_ rfl rfl rfl rfl rfl ?_ qt rfl⟩
      · simp only [thOk]
        refine ⟨r1.1, r1.2, fun e => ⟨?_, fun hp => ?_⟩⟩
        · rintro rfl
          simp only [Nat.zero_add, List.length_nil] at hx hav
          omega
        · obtain ⟨x, e1, e2, e3⟩ := hp
          obtain ⟨q1, -⟩ := H.own x e1
          simp only [ownOk, e2] at q1
          simp only [Nat.zero_add] at hx
          omega
      · simp only [Nat.zero_add]; omega
  · rw [doG_cont (by simp [stepO])]
    refine ⟨T, X, H.thCont h1 h2 ho rfl ?_ rfl rfl rfl rfl rfl ?_ ?_ rfl⟩
    · simp only [stepO, thOk]
      refine ⟨r1.1, r1.2.1, fun e => ⟨r1.2.2 e, ?_⟩⟩
      obtain ⟨v1, v2⟩ := r1.2.2 e
      cases X with
      | nil => exact absurd rfl v1
      | cons z X =>
        have := H.at' 0 z rfl
        rw [e, slotN_at]
        simp only [Nat.zero_add, Nat.add_zero] at this ⊢
        rw [this]; rfl
    · simp only [stepO]; exact qb
    · simp only [stepO]; exact qt
  · by_cases hx : G.M.av 0 = tt
    · rw [doG_end (by simp [stepO, hx])]
      have e : tt = T := by rw [← hx]; exact htop
      obtain ⟨v1, v2⟩ := r1.2.2 e
      cases X with
      | nil => exact absurd rfl v1.1
      | cons z X =>
        refine ⟨T + 1, X, H.thGot h1 rfl v1 ?_ ?_ ?_ ?_⟩
        · simp only [stepO]; rw [swap_av_won hx, e]
        · simp [stepO, hx]
        · simp only [stepO, hx, if_true]; exact qk
        · simp only [stepO, hx, if_true]; simpa using v2.symm
    · rw [doG_end (by simp [stepO, hx])]
      refine ⟨T, X, H.thEnd0 h1 ?_ ?_⟩
      · simp only [stepO]; rw [swap_av, if_neg hx]
      · simp [stepO, hx]
theorem vld_of {w w' : Option AO} {X : List Int} (h : ¬ pend w') (v : vld w X) : vld w' X := ⟨v.1, fun p => absurd p h⟩
theorem npend {o : AO} (h : o.pc ≠ .popSlot) : ¬ pend (some o) := by rw [pend_some]; exact fun hh => h hh.1
theorem PI.ownStep (H : PI push c G T X) {o : AO} (ho : (G.th 0).o = some o) : ∃ T' X', PI push c (doG push G 0 o) T' X' := by
  obtain ⟨r1, r2, r3, r4⟩ := H.own o ho
  have qa := r2.a
  have qc := r2.c
  have qw := r2.w
  have qb := r2.b
  have qt := r2.t
  have qk := r2.tk
  have htop := H.top
  have hbd := H.bd40
  have hr := H.r
  have hbd2 : bd (G.th 0) = if isPush o.pc then (G.th 0).next - 1 else (G.th 0).next := by simp only [bd, ho]
  have hnx := H.nx
  have hn0 := r2.nx
  have hat := H.at'
  have hperm := H.perm
  have hl1 := H.lt1
  have hl2 := H.lt2
  rw [ho] at hperm
  obtain ⟨a, c', pc, w, tk, b, t, v⟩ := o
  simp only at qa qc qw qb qt qk r3 r4 hbd2
  subst qa qc qw
  have same : ∀ (o' : AO), o'.pc ≠ .popSlot → ∀ o2, thOk T X (some ⟨0, c', pc, 0, tk, b, t, v⟩) o2 → thOk T X (some o') o2 := fun o' h o2 => thOk_mono rfl (vld_of (npend h)) fun _ => rfl
  have same0 : ∀ o2, thOk T X (some ⟨0, c', pc, 0, tk, b, t, v⟩) o2 → thOk T X none o2 := fun o2 => thOk_mono rfl (vld_of pend_none) fun _ => rfl
  have u1 : ∀ x i, upd G.M.av (0 + 1) x (2 + i) = G.M.av (2 + i) := fun x i => upd_ne _ _ (by omega)
  have u0 : ∀ x, upd G.M.av (0 + 1) x 0 = G.M.av 0 := fun x => upd_ne _ _ (by omega)
  have u11 : ∀ x, upd G.M.av (0 + 1) x 1 = x := fun x => upd_same _ _ _
  cases pc <;> simp only [ownOk] at r1 <;> simp only [isPush, Bool.not_true, Bool.not_false, if_true, Bool.false_eq_true, if_false, true_implies, false_implies] at r3 r4 qk hbd2
  -- pushBottom
  · rw [doG_cont (by simp [stepO])]
    refine ⟨T, X, H.ownCont ho htop hat ?_ rfl rfl rfl rfl rfl ?_ ?_ rfl (fun _ => rfl) (same _ (by simp [stepO])) (List.Perm.refl _) (List.Sublist.refl _) (Nat.le_refl _)⟩
    · simp only [stepO, ownOk, load_av, Nat.zero_add]; omega
    · simp only [stepO, Nat.zero_add]; omega
    · simp only [stepO]; exact qt
  -- pushTop
  · by_cases hx : (c' : Int) ≤ b - G.M.av 0
    · rw [doG_end (by simp [stepO, hx])]
      have e1 : (endG push G 0 (stepO ⟨0, c', .pushTop, 0, tk, b, t, v⟩ G.M 0).1 (stepO ⟨0, c', .pushTop, 0, tk, b, t, v⟩ G.M 0).2).pu = G.pu := by simp [endG, stepO, hx]
      have e3 : (endG push G 0 (stepO ⟨0, c', .pushTop, 0, tk, b, t, v⟩ G.M 0).1 (stepO ⟨0, c', .pushTop, 0, tk, b, t, v⟩ G.M 0).2).go = G.go := by simp [endG, stepO, hx]
      refine ⟨T, X, H.ownEnd ho htop r1.1 H.len hat same0 ?_ H.srt (fun y hy => ?_) (fun y hy => ?_) ?_ (by omega)⟩
      · rw [e1, e3]; simpa [infl] using hperm
      · have := hl1 y hy; omega
      · rw [e1] at hy; have := hl2 y hy; omega
      · rw [e1]; exact H.nd
    · rw [doG_c (M' := G.M.load 0 0) (o' := ⟨0, c', .pushSlot, 0, tk, b, G.M.av 0, v⟩) (by simp [stepO, hx]) rfl]
      refine ⟨T, X, H.ownCont ho htop hat ?_ rfl rfl rfl rfl rfl qb ?_ rfl (fun _ => rfl) (same _ (by simp)) (List.Perm.refl _) (List.Sublist.refl _) (Nat.le_refl _)⟩
      · simp only [ownOk, load_av]; omega
      · simp only [htop]; omega
  -- pushSlot
  · rw [doG_cont (by simp [stepO])]
    obtain ⟨g1, g2, g3⟩ := r1
    have hsl : slotN 0 c' b = 2 + (T + X.length) % c' := by rw [g2, show (T : Int) + X.length = ((T + X.length : Nat) : Int) by omega, slotN_at]
    have w2 : ∀ x i, i < 2 → upd G.M.av (2 + (T + X.length) % c') x i = G.M.av i := fun x i hi => upd_ne _ _ (by omega)
    refine ⟨T, X, H.ownCont ho ?_ (fun i x e => ?_) ?_ rfl rfl rfl rfl rfl ?_ ?_ rfl (fun _ => rfl) (same _ (by simp [stepO])) (List.Perm.refl _) (List.Sublist.refl _) (Nat.le_refl _)⟩
    · simp only [stepO, store_av, hsl]; rw [w2 _ _ (by omega)]; exact htop
    · simp only [stepO, store_av, hsl]
      have hi := (List.getElem?_eq_some_iff.1 e).1
      rw [upd_ne _ _ (by have := mod_ne (i := T + i) (j := T + X.length) (c := c') (by omega) (by omega); omega)]
      exact hat i x e
    · simp only [stepO, store_av, hsl, ownOk]
      rw [w2 _ _ (by omega), upd_same]
      exact ⟨g1, g2, g3, rfl⟩
    · simp only [stepO]; exact qb
    · simp only [stepO]; exact qt
  -- pushDone
  · rw [doG_end (by simp [stepO])]
    obtain ⟨g1, g2, g3, g4⟩ := r1
    have e1 : (endG push G 0 (stepO ⟨0, c', .pushDone, 0, tk, b, t, v⟩ G.M 0).1 (stepO ⟨0, c', .pushDone, 0, tk, b, t, v⟩ G.M 0).2).pu = G.pu ++ [v] := by
      simp only [endG, stepO]; rw [if_pos ⟨trivial, r3, trivial⟩, r4]
    have e3 : (endG push G 0 (stepO ⟨0, c', .pushDone, 0, tk, b, t, v⟩ G.M 0).1 (stepO ⟨0, c', .pushDone, 0, tk, b, t, v⟩ G.M 0).2).go = G.go := by simp [endG, stepO, qk]
    refine ⟨T, X ++ [v], H.ownEnd ho ?_ ?_ ?_ (fun i x e => ?_) (fun o2 => thOk_mono rfl (fun hv => ⟨by simp, fun p => absurd p pend_none⟩) fun hv => ?_) ?_ ?_ (fun y hy => ?_) (fun y hy => ?_) ?_ ?_⟩
    · simp only [stepO, store_av, u0]; exact htop
    · simp only [stepO, store_av, u11, List.length_append, List.length_singleton]; omega
    · simp only [List.length_append, List.length_singleton]; omega
    · simp only [stepO, store_av, u1]
      by_cases hi : i < X.length
      · rw [List.getElem?_append_left hi] at e
        exact hat i x e
      · have hi2 : i = X.length := by
          have := (List.getElem?_eq_some_iff.1 e).1
          simp at this; omega
        subst hi2
        rw [g4]; simpa using e
    · cases X with
      | nil => exact absurd rfl hv.1
      | cons z X => rfl
    · rw [e1, e3, ← List.append_assoc]
      exact List.Perm.append_right _ (by simpa [infl] using hperm)
    · rw [← List.append_assoc]
      rw [List.pairwise_append]
      refine ⟨H.srt, by simp, fun x hx y hy => ?_⟩
      have := hl1 x hx
      simp only [List.mem_singleton] at hy
      omega
    · rw [← List.append_assoc] at hy
      rcases List.mem_append.1 hy with hy | hy
      · have := hl1 y hy; omega
      · simp only [List.mem_singleton] at hy; omega
    · rw [e1] at hy
      rcases List.mem_append.1 hy with hy | hy
      · have := hl2 y hy; omega
      · simp only [List.mem_singleton] at hy; omega
    · rw [e1, List.nodup_append]
      refine ⟨H.nd, by simp, fun x hx y hy => ?_⟩
      have := hl2 x hx
      simp only [List.mem_singleton] at hy
      omega
    · simp only [List.length_append, List.length_singleton]; omega
  -- popBottom
  · rw [doG_cont (by simp [stepO])]
    refine ⟨T, X, H.ownCont ho htop hat ?_ rfl rfl rfl rfl rfl ?_ ?_ rfl (fun _ => rfl) (same _ (by simp [stepO])) (List.Perm.refl _) (List.Sublist.refl _) (Nat.le_refl _)⟩
    · simp only [stepO, ownOk, load_av, Nat.zero_add]; omega
    · simp only [stepO, Nat.zero_add]; omega
    · simp only [stepO]; exact qt
  -- popStore
  · rw [doG_cont (by simp [stepO])]
    refine ⟨T, X, H.ownCont ho ?_ ?_ ?_ rfl rfl rfl rfl rfl ?_ ?_ rfl (fun _ => rfl) (same _ (by simp [stepO])) (List.Perm.refl _) (List.Sublist.refl _) (Nat.le_refl _)⟩
    · simp only [stepO, store_av, u0]; exact htop
    · simp only [stepO, store_av, u1]; exact hat
    · simp only [stepO, ownOk, store_av, u11]; omega
    · simp only [stepO]; exact qb
    · simp only [stepO]; exact qt
  -- popTop
  · by_cases hx : b < G.M.av 0
    · have hX : X = [] := List.eq_nil_of_length_eq_zero (by omega)
      rw [doG_c (M' := G.M.load 0 0) (o' := ⟨0, c', .popNone, 0, tk, b, G.M.av 0, v⟩) (by simp [stepO, hx]) rfl]
      refine ⟨T, X, H.ownCont ho htop hat ?_ rfl rfl rfl rfl rfl qb ?_ rfl (fun _ => rfl) (same _ (by simp)) (List.Perm.refl _) (List.Sublist.refl _) (Nat.le_refl _)⟩
      · simp only [ownOk, load_av]; subst hX; simp only [List.length_nil] at r1; exact ⟨by omega, htop, rfl⟩
      · simp only [htop]; omega
    · rw [doG_c (M' := G.M.load 0 0) (o' := ⟨0, c', .popSlot, 0, tk, b, G.M.av 0, v⟩) (by simp [stepO, hx]) rfl]
      refine ⟨T, X, H.ownCont ho htop hat ?_ rfl rfl rfl rfl rfl qb ?_ rfl (fun _ => rfl) (fun o2 => thOk_mono rfl (fun hv => ⟨hv.1, fun hp => ?_⟩) fun _ => rfl) (List.Perm.refl _) (List.Sublist.refl _) (Nat.le_refl _)⟩
      · simp only [ownOk, load_av]
        rw [htop] at hx ⊢
        exact ⟨r1.1, r1.2, by omega, by omega, by omega, fun _ e => by subst e; simp only [List.length_nil] at r1; omega⟩
      · simp only [htop]; omega
      · rw [pend_some] at hp
        simp only [htop] at hp
        omega
  -- popNone
  · rw [doG_end (by simp [stepO])]
    obtain ⟨g1, g2, rfl⟩ := r1
    have e1 : (endG push G 0 (stepO ⟨0, c', .popNone, 0, tk, b, t, v⟩ G.M 0).1 (stepO ⟨0, c', .popNone, 0, tk, b, t, v⟩ G.M 0).2).pu = G.pu := by simp [endG, stepO]
    have e3 : (endG push G 0 (stepO ⟨0, c', .popNone, 0, tk, b, t, v⟩ G.M 0).1 (stepO ⟨0, c', .popNone, 0, tk, b, t, v⟩ G.M 0).2).go = G.go := by simp [endG, stepO]
    refine ⟨T, [], H.ownEnd ho ?_ ?_ H.len (fun i x e => by simp at e) same0 ?_ H.srt (fun y hy => ?_) (fun y hy => ?_) ?_ (by omega)⟩
    · simp only [stepO, store_av, u0]; exact htop
    · simp only [stepO, store_av, u11, List.length_nil]; omega
    · rw [e1, e3]; simpa [infl] using hperm
    · have := hl1 y hy; omega
    · rw [e1] at hy; have := hl2 y hy; omega
    · rw [e1]; exact H.nd
  -- popSlot
  · obtain ⟨g1, g2, g3, g4, g5, g6⟩ := r1
    by_cases hx : t < b
    · rw [doG_end (by simp [stepO, hx])]
      rcases List.eq_nil_or_concat X with hX | ⟨X0, z, hX⟩
      · exact absurd hX (g6 hx)
      rw [List.concat_eq_append] at hX
      subst hX
      simp only [List.length_append, List.length_singleton] at g1 g2 hr
      have hl := H.len
      simp only [List.length_append, List.length_singleton] at hl
      have hsl : slotN 0 c' b = 2 + (T + X0.length) % c' := by rw [g2, show (T : Int) + (X0.length + 1 : Nat) - 1 = ((T + X0.length : Nat) : Int) by omega, slotN_at]
      have hz : G.M.av (slotN 0 c' b) = z := by rw [hsl]; exact hat X0.length z (by simp)
      have e1 : (endG push G 0 (stepO ⟨0, c', .popSlot, 0, tk, b, t, v⟩ G.M 0).1 (stepO ⟨0, c', .popSlot, 0, tk, b, t, v⟩ G.M 0).2).pu = G.pu := by
        simp only [endG, stepO, hx, if_true]; rw [if_neg (by rw [r3]; simp)]
      have e3 : (endG push G 0 (stepO ⟨0, c', .popSlot, 0, tk, b, t, v⟩ G.M 0).1 (stepO ⟨0, c', .popSlot, 0, tk, b, t, v⟩ G.M 0).2).go = G.go ++ [z] := by
        simp only [endG, stepO, hx, if_true]; rw [if_pos ⟨qk, trivial⟩, hz]
      have hS : (G.st ++ X0).Sublist (G.st ++ (X0 ++ [z])) := (List.Sublist.refl _).append (List.sublist_append_left _ _)
      have h0 : (stepO ⟨0, c', .popSlot, 0, tk, b, t, v⟩ G.M 0).1.av = G.M.av := by simp only [stepO, load_av]
      refine ⟨T, X0, H.ownEnd ho ?_ ?_ (by omega) (fun i x e => ?_) (fun o2 => ?_) ?_ (H.srt.sublist hS) (fun y hy => ?_) (fun y hy => ?_) ?_ (by omega)⟩
      · rw [h0]; exact htop
      · rw [h0]; omega
      · rw [h0]
        have hi := (List.getElem?_eq_some_iff.1 e).1
        exact hat i x (by rw [List.getElem?_append_left hi]; exact e)
      · have hp : pend (some ⟨0, c', .popSlot, 0, tk, b, t, v⟩) := pend_some.2 ⟨rfl, hx⟩
        refine thOk_mono rfl (fun hv => ⟨?_, fun p => absurd p pend_none⟩) fun hv => ?_
        · have := hv.2 hp
          rintro rfl; simp at this
        · have := hv.2 hp
          cases X0 with
          | nil => simp at this
          | cons y X0 => rfl
      · rw [e1, e3]
        refine List.Perm.trans ?_ hperm
        rw [List.perm_iff_count]
        intro x
        simp only [infl, List.count_append, List.count_cons, List.count_nil]
        simp
        omega
      · have := hl1 y (hS.subset hy); omega
      · rw [e1] at hy; have := hl2 y hy; omega
      · rw [e1]; exact H.nd
    · have htb : t = b := by omega
      rw [doG_c (M' := G.M.load 0 (slotN 0 c' b)) (o' := ⟨0, c', .popSwap, 0, tk, b, t, G.M.av (slotN 0 c' b)⟩) (by simp [stepO, hx]) rfl]
      refine ⟨T, X, H.ownCont ho htop hat ?_ rfl rfl rfl rfl rfl qb qt rfl (fun h => absurd h (by simp [isPush])) (same _ (by simp)) (List.Perm.refl _) (List.Sublist.refl _) (Nat.le_refl _)⟩
      · simp only [ownOk, load_av]
        refine ⟨g1, by omega, ?_⟩
        match X, g2, hat with
        | [], _, _ => exact .inl rfl
        | [z], g2, hat =>
          right
          have hsl : slotN 0 c' b = 2 + (T + 0) % c' := by rw [g2, show (T : Int) + (([z] : List Int).length : Nat) - 1 = ((T + 0 : Nat) : Int) by simp, slotN_at]
          rw [hsl, hat 0 z rfl]
        | z :: y :: X, g2, _ => simp only [List.length_cons] at g2; omega
  -- popSwap
  · obtain ⟨g1, g2, g3⟩ := r1
    by_cases hx : G.M.av 0 = t
    · have hX : X = [v] := by
        rcases g3 with rfl | g3
        · simp only [List.length_nil] at g2; omega
        · exact g3
      subst hX
      simp only [List.length_singleton] at g1 g2 hr
      rw [doG_c (M' := G.M.swap 0 0 t (t + 1)) (o' := ⟨0, c', .popWon, 0, tk, b, t, v⟩) (by simp [stepO, hx]) rfl]
      have hM : (G.M.swap 0 0 t (t + 1)).av = upd G.M.av 0 (t + 1) := swap_av_won hx
      refine ⟨T + 1, [], H.ownCont ho ?_ (fun i x e => by simp at e) ?_ rfl rfl rfl rfl rfl qb qt rfl (fun _ => rfl) (fun o2 => thOk_up) (by simp [infl]) (List.nil_sublist _) ?_⟩
      · rw [hM, upd_same]; omega
      · rw [hM]
        simp only [ownOk, upd_ne _ _ (show 1 ≠ 0 by omega)]
        exact ⟨by omega, by omega, trivial⟩
      · simp only [List.length_nil, List.length_singleton]; omega
    · have hX : X = [] := by
        rcases g3 with rfl | rfl
        · rfl
        · simp only [List.length_singleton] at g2; omega
      subst hX
      simp only [List.length_nil] at g1 g2 hr
      rw [doG_c (M' := G.M.swap 0 0 t (t + 1)) (o' := ⟨0, c', .popLost, 0, tk, b, t, v⟩) (by simp [stepO, hx]) rfl]
      have hM : (G.M.swap 0 0 t (t + 1)).av = G.M.av := by rw [swap_av, if_neg hx]
      refine ⟨T, [], H.ownCont ho (by rw [hM]; exact htop) (fun i x e => by simp at e) ?_ rfl rfl rfl rfl rfl qb qt rfl (fun _ => rfl) (same _ (by simp)) (by simp [infl]) (List.nil_sublist _) (Nat.le_refl _)⟩
      rw [hM]
      simp only [ownOk]
      exact ⟨by omega, by omega, trivial⟩
  -- popWon
  · rw [doG_end (by simp [stepO])]
    obtain ⟨g1, g2, rfl⟩ := r1
    have e1 : (endG push G 0 (stepO ⟨0, c', .popWon, 0, tk, b, t, v⟩ G.M 0).1 (stepO ⟨0, c', .popWon, 0, tk, b, t, v⟩ G.M 0).2).pu = G.pu := by
      simp only [endG, stepO]; rw [if_neg (by rw [r3]; simp)]
    have e3 : (endG push G 0 (stepO ⟨0, c', .popWon, 0, tk, b, t, v⟩ G.M 0).1 (stepO ⟨0, c', .popWon, 0, tk, b, t, v⟩ G.M 0).2).go = G.go ++ [v] := by
      simp only [endG, stepO]; rw [if_pos ⟨qk, trivial⟩]
    refine ⟨T, [], H.ownEnd ho ?_ ?_ H.len (fun i x e => by simp at e) same0 ?_ H.srt (fun y hy => ?_) (fun y hy => ?_) ?_ (by omega)⟩
    · simp only [stepO, store_av, u0]; exact htop
    · simp only [stepO, store_av, u11, List.length_nil]; omega
    · rw [e1, e3]; simpa [infl] using hperm
    · have := hl1 y hy; omega
    · rw [e1] at hy; have := hl2 y hy; omega
    · rw [e1]; exact H.nd
  -- popLost
  · rw [doG_end (by simp [stepO])]
    obtain ⟨g1, g2, rfl⟩ := r1
    have e1 : (endG push G 0 (stepO ⟨0, c', .popLost, 0, tk, b, t, v⟩ G.M 0).1 (stepO ⟨0, c', .popLost, 0, tk, b, t, v⟩ G.M 0).2).pu = G.pu := by simp [endG, stepO]
    have e3 : (endG push G 0 (stepO ⟨0, c', .popLost, 0, tk, b, t, v⟩ G.M 0).1 (stepO ⟨0, c', .popLost, 0, tk, b, t, v⟩ G.M 0).2).go = G.go := by simp [endG, stepO]
    refine ⟨T, [], H.ownEnd ho ?_ ?_ H.len (fun i x e => by simp at e) same0 ?_ H.srt (fun y hy => ?_) (fun y hy => ?_) ?_ (by omega)⟩
    · simp only [stepO, store_av, u0]; exact htop
    · simp only [stepO, store_av, u11, List.length_nil]; omega
    · rw [e1, e3]; simpa [infl] using hperm
    · have := hl1 y hy; omega
    · rw [e1] at hy; have := hl2 y hy; omega
    · rw [e1]; exact H.nd
end
end Go.Proofs.Ytjoldlaoncdcgaa
