/- However the steps of an owner and of thieves come, each number that was pushed is got, once. The plain law: a thread's step, and the end. -/
import Derived.Test.YtjoldlaoncdcgaaDI
set_option linter.unusedSimpArgs false
set_option linter.unusedVariables false
namespace Go.Proofs.Ytjoldlaoncdcgaa
def newop (push : List Bool) (c t next : Nat) : Option AO :=
  if 0 < t then (if next < 12 then some (AO.steal 0 c) else none)
  else if next < push.length then some (if push.getD next false = true then AO.push 0 c (100 + (next : Int)) else AO.pop 0 c) else none
def putT (G : GM) (t : Nat) (x : TH) : GM := { G with th := upd G.th t x }
theorem putT_same (G : GM) (t : Nat) (x : TH) : (putT G t x).th t = x := upd_same _ _ _
theorem putT_ne (G : GM) {t u : Nat} (x : TH) (h : u ≠ t) : (putT G t x).th u = G.th u := upd_ne _ _ h
def begG (G : GM) (t : Nat) (o : AO) : GM := putT G t ⟨some o, (G.th t).next + 1, 0, false⟩
def stepG (push : List Bool) (c : Nat) (G : GM) (t : Nat) : GM :=
  if (G.th t).over = true then G else
  match (G.th t).o with
  | some o => doG push G t o
  | none => match newop push c t (G.th t).next with
    | some o => doG push (begG G t o) t o
    | none => putT G t ⟨none, (G.th t).next, (G.th t).steps, true⟩
/-- What is counted. -/
structure AX (push : List Bool) (c n : Nat) (i : Nat) (G : GM) : Prop where
  Gn : G.n = n
  Mn : G.M.n = n
  na : G.M.na = c + 2
  ops : G.M.ops ≤ i
  pu : G.pu.length ≤ i
  st : G.st.length ≤ i
  go : G.go.length ≤ i
  nx0 : (G.th 0).next ≤ push.length
  nxt : ∀ t, 0 < t → (G.th t).next ≤ 12
section
variable {push : List Bool} {c : Nat} {G : GM} {T : Nat} {X : List Int}
theorem PI.begin (H : PI push c G T X) {t : Nat} (ht : t < G.n) (hp : push.length ≤ 40) {o : AO} (ho : (G.th t).o = none) (hov : (G.th t).over = false) (hn : newop push c t (G.th t).next = some o) : PI push c (begG G t o) T X := by
  unfold newop at hn
  by_cases h0 : 0 < t
  · rw [if_pos h0] at hn
    split at hn
    · simp only [Option.some.injEq] at hn
      subst hn
      have e0 : (begG G t (AO.steal 0 c)).th 0 = G.th 0 := putT_ne _ _ (by omega)
      refine ⟨H.top, H.len, H.c0, H.at', by rw [e0]; exact H.own, by rw [e0]; exact H.idle, fun u h3 h4 o2 e => ?_, by rw [e0]; exact H.perm, H.srt, by rw [e0]; exact H.lt1, by rw [e0]; exact H.lt2, H.nd, by rw [e0]; exact H.r, by rw [e0]; exact H.nx⟩
      rw [e0]
      by_cases hu : u = t
      · subst hu
        simp only [begG, putT_same, Option.some.injEq] at e ⊢
        subst e
        exact ⟨trivial, rfl, rfl, rfl, rfl, ⟨by simp [AO.steal], by simp [AO.steal]⟩, ⟨by simp [AO.steal], by simp [AO.steal]⟩, rfl, Nat.succ_pos _, rfl⟩
      · simp only [begG, putT_ne _ _ hu] at e ⊢
        exact H.thi u h3 h4 o2 e
    · cases hn
  · have h00 : t = 0 := by omega
    subst h00
    rw [if_neg h0] at hn
    split at hn
    · rename_i hlt
      simp only [Option.some.injEq] at hn
      have hbd : bd (G.th 0) = (G.th 0).next := by simp only [bd, ho]
      have hid := H.idle ho
      have hth : ∀ w, ¬ pend w → ∀ o2, thOk T X (G.th 0).o o2 → thOk T X w o2 := fun w hw o2 => thOk_mono rfl (vld_of hw) fun _ => rfl
      have hb2 : bd ((begG G 0 o).th 0) = (G.th 0).next ∨ bd ((begG G 0 o).th 0) = (G.th 0).next + 1 := by
        simp only [begG, putT_same, bd]; split <;> omega
      have hb3 : bd (G.th 0) ≤ bd ((begG G 0 o).th 0) := by omega
      have hnp : ¬ pend (some o) := by
        rw [pend_some]; subst hn; split <;> simp [AO.push, AO.pop]
      have hin : infl (some o) = [] := by subst hn; split <;> simp [AO.push, AO.pop, infl]
      refine ⟨H.top, H.len, H.c0, H.at', fun o2 e => ?_, fun e => ?_, fun u h3 h4 o2 e => ?_, ?_, H.srt, fun y hy => ?_, fun y hy => ?_, H.nd, ?_, ?_⟩
      · simp only [begG, putT_same, Option.some.injEq] at e ⊢
        subst e
        simp only [Nat.add_sub_cancel]
        cases hpb : push.getD (G.th 0).next false with
        | true =>
          rw [hpb, if_pos rfl] at hn
          subst hn
          exact ⟨hid, ⟨rfl, rfl, rfl, rfl, ⟨by simp [AO.push], by simp [AO.push]⟩, ⟨by simp [AO.push], by simp [AO.push]⟩, rfl, Nat.succ_pos _, rfl⟩, rfl, fun _ => by simp only [AO.push]; omega⟩
        | false =>
          rw [hpb, if_neg (by simp)] at hn
          subst hn
          exact ⟨hid, ⟨rfl, rfl, rfl, rfl, ⟨by simp [AO.pop], by simp [AO.pop]⟩, ⟨by simp [AO.pop], by simp [AO.pop]⟩, rfl, Nat.succ_pos _, rfl⟩, rfl, fun h => by simp [AO.pop, isPush] at h⟩
      · simp only [begG, putT_same] at e; cases e
      · simp only [begG, putT_ne _ _ (show u ≠ 0 by omega)] at e
        obtain ⟨r1, r2⟩ := H.thi u h3 h4 o2 e
        simp only [begG, putT_same, putT_ne _ _ (show u ≠ 0 by omega)]
        exact ⟨hth _ hnp _ r1, r2⟩
      · have := H.perm
        rw [ho] at this
        simp only [begG, putT_same, hin]
        exact this
      · have := H.lt1 y hy; omega
      · have := H.lt2 y hy; omega
      · have := H.r; omega
      · simp only [begG, putT_same]; omega
    · cases hn
theorem PI.quit (H : PI push c G T X) {t : Nat} (ho : (G.th t).o = none) : PI push c (putT G t ⟨none, (G.th t).next, (G.th t).steps, true⟩) T X := by
  have hth : ∀ u, ((putT G t ⟨none, (G.th t).next, (G.th t).steps, true⟩).th u).o = (G.th u).o ∧ ((putT G t ⟨none, (G.th t).next, (G.th t).steps, true⟩).th u).next = (G.th u).next ∧ (((G.th u).o ≠ none) → (putT G t ⟨none, (G.th t).next, (G.th t).steps, true⟩).th u = G.th u) := fun u => by
    by_cases e : u = t
    · subst e; rw [putT_same]; exact ⟨ho.symm, rfl, fun h => absurd ho h⟩
    · rw [putT_ne _ _ e]; exact ⟨rfl, rfl, fun _ => rfl⟩
  have hbd : bd ((putT G t ⟨none, (G.th t).next, (G.th t).steps, true⟩).th 0) = bd (G.th 0) := by unfold bd; rw [(hth 0).1, (hth 0).2.1]
  refine ⟨H.top, H.len, H.c0, H.at', fun o e => ?_, fun e => H.idle ((hth 0).1 ▸ e), fun u h3 h4 o2 e => ?_, by rw [(hth 0).1]; exact H.perm, H.srt, by rw [hbd]; exact H.lt1, by rw [hbd]; exact H.lt2, H.nd, by rw [hbd]; exact H.r, by rw [(hth 0).2.1]; exact H.nx⟩
  · rw [(hth 0).1] at e
    rw [(hth 0).2.2 (by rw [e]; simp)]
    exact H.own o e
  · rw [(hth u).1] at e
    rw [(hth 0).1, (hth u).2.2 (by rw [e]; simp)]
    exact H.thi u h3 h4 o2 e
theorem PI.does (H : PI push c G T X) {t : Nat} (ht : t < G.n) {o : AO} (ho : (G.th t).o = some o) : ∃ T' X', PI push c (doG push G t o) T' X' := by
  by_cases h0 : t = 0
  · subst h0; exact H.ownStep ho
  · exact H.thStep (by omega) ht ho
theorem PI.step (H : PI push c G T X) {t : Nat} (ht : t < G.n) (hp : push.length ≤ 40) : ∃ T' X', PI push c (stepG push c G t) T' X' := by
  unfold stepG
  by_cases hov : (G.th t).over = true
  · rw [if_pos hov]; exact ⟨T, X, H⟩
  · rw [if_neg hov]
    cases ho : (G.th t).o with
    | some o => exact H.does ht ho
    | none =>
      simp only
      cases hn : newop push c t (G.th t).next with
      | none => exact ⟨T, X, H.quit ho⟩
      | some o => exact (H.begin ht hp ho (by simpa using hov) hn).does (show t < (begG G t o).n from ht) (by simp only [begG, putT_same])
theorem AX.does {n i : Nat} (H : AX push c n i G) (t : Nat) (o : AO) : AX push c n (i + 1) (doG push G t o) := by
  have e := stepO_n o G.M t
  have hth : ∀ G' : GM, (G' = contG G t (stepO o G.M t).1 (stepO o G.M t).2 ∨ G' = endG push G t (stepO o G.M t).1 (stepO o G.M t).2) → ∀ u, (G'.th u).next = (G.th u).next := by
    rintro G' (rfl | rfl) u
    · by_cases h : u = t
      · subst h; simp only [contG, upd_same]
      · simp only [contG, upd_ne _ _ h]
    · by_cases h : u = t
      · subst h; simp only [endG, upd_same]
      · simp only [endG, upd_ne _ _ h]
  have h1 := H.pu
  have h2 := H.st
  have h3 := H.go
  have h4 := H.ops
  unfold doG
  split
  · have hh := hth _ (.inl rfl)
    exact ⟨H.Gn, e.1.trans H.Mn, e.2.1.trans H.na, by simp only [contG]; rw [e.2.2.2.2.1]; push_cast; omega, by simp only [contG]; omega, by simp only [contG]; omega, by simp only [contG]; omega, by rw [hh]; exact H.nx0, fun u hu => by rw [hh]; exact H.nxt u hu⟩
  · have hh := hth _ (.inr rfl)
    refine ⟨H.Gn, e.1.trans H.Mn, e.2.1.trans H.na, by simp only [endG]; rw [e.2.2.2.2.1]; push_cast; omega, ?_, ?_, ?_, by rw [hh]; exact H.nx0, fun u hu => by rw [hh]; exact H.nxt u hu⟩
    · simp only [endG]; split
      · simp; omega
      · omega
    · simp only [endG]; split
      · simp; omega
      · omega
    · simp only [endG]; split
      · simp; omega
      · omega
theorem AX.mono {n i j : Nat} (H : AX push c n i G) (h : i ≤ j) : AX push c n j G :=
  ⟨H.Gn, H.Mn, H.na, by have := H.ops; omega, by have := H.pu; omega, by have := H.st; omega, by have := H.go; omega, H.nx0, H.nxt⟩
theorem AX.begin {n i : Nat} (H : AX push c n i G) {t : Nat} {o : AO} (hn : newop push c t (G.th t).next = some o) : AX push c n i (begG G t o) := by
  refine ⟨H.Gn, H.Mn, H.na, H.ops, H.pu, H.st, H.go, ?_, fun u hu => ?_⟩
  · by_cases h : 0 = t
    · subst h
      simp only [begG, putT_same]
      unfold newop at hn
      rw [if_neg (by omega)] at hn
      split at hn
      · omega
      · cases hn
    · simp only [begG, putT_ne _ _ h]; exact H.nx0
  · by_cases h : u = t
    · subst h
      simp only [begG, putT_same]
      unfold newop at hn
      rw [if_pos hu] at hn
      split at hn
      · omega
      · cases hn
    · simp only [begG, putT_ne _ _ h]; exact H.nxt u hu
theorem AX.quit {n i : Nat} (H : AX push c n i G) (t : Nat) : AX push c n i (putT G t ⟨none, (G.th t).next, (G.th t).steps, true⟩) := by
  have hh : ∀ u, ((putT G t ⟨none, (G.th t).next, (G.th t).steps, true⟩).th u).next = (G.th u).next := fun u => by
    by_cases h : u = t
    · subst h; rw [putT_same]
    · rw [putT_ne _ _ h]
  exact ⟨H.Gn, H.Mn, H.na, H.ops, H.pu, H.st, H.go, by rw [hh]; exact H.nx0, fun u hu => by rw [hh]; exact H.nxt u hu⟩
theorem AX.step {n i : Nat} (H : AX push c n i G) (t : Nat) : AX push c n (i + 1) (stepG push c G t) := by
  unfold stepG
  split
  · exact H.mono (by omega)
  · split
    · exact H.does t _
    · split
      · rename_i hn; exact (H.begin hn).does t _
      · exact (H.quit t).mono (by omega)
/-! ### the owner comes to its end -/
def remT (push : List Bool) (x : TH) : Nat := if x.over = true then 0 else 1 + (push.length - x.next) * 7 + (match x.o with | some _ => 7 - x.steps | none => 0)
theorem rem_does {o : AO} (ho : (G.th 0).o = some o) (hov : (G.th 0).over = false) (hs : (G.th 0).steps ≤ 5) : remT push ((doG push G 0 o).th 0) + 1 ≤ remT push (G.th 0) := by
  have e1 : remT push (G.th 0) = 1 + (push.length - (G.th 0).next) * 7 + (7 - (G.th 0).steps) := by simp only [remT, hov, ho]; simp
  rw [e1]
  unfold doG
  split
  · simp only [contG, upd_same, remT, hov]; simp; omega
  · simp only [endG, upd_same, remT, hov]; simp; omega
theorem rem_step (H : PI push c G T X) (t : Nat) : remT push ((stepG push c G t).th 0) ≤ remT push (G.th 0) ∧ (t = 0 → remT push ((stepG push c G t).th 0) ≤ remT push (G.th 0) - 1) := by
  by_cases h0 : t = 0
  · subst h0
    suffices h : remT push ((stepG push c G 0).th 0) ≤ remT push (G.th 0) - 1 from ⟨by omega, fun _ => h⟩
    unfold stepG
    by_cases hov : (G.th 0).over = true
    · rw [if_pos hov]; simp [remT, hov]
    · rw [if_neg hov]
      have hov' : (G.th 0).over = false := by simpa using hov
      cases ho : (G.th 0).o with
      | some o =>
        simp only
        have hs : (G.th 0).steps ≤ 5 := by rw [(H.own o ho).2.1.steps]; cases o.pc <;> simp [depth]
        have := rem_does (push := push) ho hov' hs
        omega
      | none =>
        simp only
        cases hn : newop push c 0 (G.th 0).next with
        | none =>
          simp only [putT_same, remT, hov', ho]; simp
        | some o =>
          simp only
          have hlt : (G.th 0).next < push.length := by
            unfold newop at hn
            rw [if_neg (by omega)] at hn
            split at hn
            · assumption
            · cases hn
          have e1 : remT push (G.th 0) = 1 + (push.length - (G.th 0).next) * 7 := by simp only [remT, hov', ho]; simp
          have e2 : remT push ((begG G 0 o).th 0) = 1 + (push.length - ((G.th 0).next + 1)) * 7 + 7 := by simp [begG, putT_same, remT]
          have := rem_does (push := push) (G := begG G 0 o) (o := o) (by simp only [begG, putT_same]) (by simp only [begG, putT_same]) (by simp only [begG, putT_same]; omega)
          omega
  · have e : (stepG push c G t).th 0 = G.th 0 := by
      have hd : ∀ G' o, (doG push G' t o).th 0 = G'.th 0 := fun G' o => by
        unfold doG; split
        · exact upd_ne _ _ (by omega)
        · exact upd_ne _ _ (by omega)
      unfold stepG
      split
      · rfl
      · split
        · exact hd _ _
        · split
          · rw [hd]; exact putT_ne _ _ (by omega)
          · exact putT_ne _ _ (by omega)
    rw [e]; exact ⟨Nat.le_refl _, fun h => absurd h h0⟩
theorem rem_zero {x : TH} (h : remT push x = 0) : x.over = true := by
  unfold remT at h
  split at h
  · assumption
  · omega
theorem PI.rest (H : PI push c G T X) (h : (G.th 0).over = true) : (G.th 0).o = none := by
  cases ho : (G.th 0).o with
  | none => rfl
  | some o => have := (H.own o ho).2.1.ov; rw [this] at h; cases h
end
end Go.Proofs.Ytjoldlaoncdcgaa
