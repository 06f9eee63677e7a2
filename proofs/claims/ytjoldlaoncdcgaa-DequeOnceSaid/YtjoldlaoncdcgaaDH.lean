/- However the steps of an owner and of thieves come, each number that was pushed is got, once. The plain law: each step keeps what holds. -/
import Derived.Test.YtjoldlaoncdcgaaDG
set_option linter.unusedSimpArgs false
set_option linter.unusedVariables false
namespace Go.Proofs.Ytjoldlaoncdcgaa
/-- A thread's operation does a step. -/
def contG (G : GM) (t : Nat) (M' : AM) (o' : AO) : GM := { G with M := M', th := upd G.th t ⟨some o', (G.th t).next, (G.th t).steps + 1, (G.th t).over⟩ }
def endG (push : List Bool) (G : GM) (t : Nat) (M' : AM) (o' : AO) : GM :=
  { G with
    M := M'
    th := upd G.th t ⟨none, (G.th t).next, (G.th t).steps + 1, (G.th t).over⟩
    pu := if t = 0 ∧ push.getD ((G.th t).next - 1) false = true ∧ o'.w = 1 then G.pu ++ [99 + ((G.th t).next : Int)] else G.pu
    st := if 0 < t ∧ o'.tk = true ∧ o'.w = 1 then G.st ++ [o'.v] else G.st
    go := if o'.tk = true ∧ o'.w = 1 then G.go ++ [o'.v] else G.go }
def doG (push : List Bool) (G : GM) (t : Nat) (o : AO) : GM :=
  if (stepO o G.M t).2.w = 0 then contG G t (stepO o G.M t).1 (stepO o G.M t).2 else endG push G t (stepO o G.M t).1 (stepO o G.M t).2
theorem pend_some {o : AO} : pend (some o) ↔ o.pc = .popSlot ∧ o.t < o.b := by simp [pend]
theorem pend_none : ¬ pend none := by simp [pend]
theorem vld_mono {w w' : Option AO} {X : List Int} (h : pend w' → pend w) (v : vld w X) : vld w' X := ⟨v.1, fun p => v.2 (h p)⟩
theorem thOk_mono {T T' : Nat} {X X' : List Int} {w w' : Option AO} {o : AO} (hT : T = T') (hv : vld w X → vld w' X') (hx : vld w X → X'[0]? = X[0]?) (h : thOk T X w o) : thOk T' X' w' o := by
  subst hT
  obtain ⟨a, c, pc, ww, tk, b, t, v⟩ := o
  cases pc <;> simp only [thOk] at h ⊢
  · exact h
  · exact ⟨h.1, h.2.1, fun e => hv (h.2.2 e)⟩
  · exact ⟨h.1, h.2.1, fun e => ⟨hv (h.2.2 e).1, by rw [hx (h.2.2 e).1]; exact (h.2.2 e).2⟩⟩
theorem thOk_up {T : Nat} {X X' : List Int} {w w' : Option AO} {o : AO} (h : thOk T X w o) : thOk (T + 1) X' w' o := by
  obtain ⟨a, c, pc, ww, tk, b, t, v⟩ := o
  cases pc <;> simp only [thOk] at h ⊢
  · omega
  · exact ⟨h.1, by omega, fun e => by omega⟩
  · exact ⟨h.1, by omega, fun e => by omega⟩
section
variable {push : List Bool} {c : Nat} {G : GM} {T : Nat} {X : List Int}
/-- The owner's operation goes on. -/
theorem PI.ownCont (H : PI push c G T X) {o o' : AO} (ho : (G.th 0).o = some o) {M' : AM} {T' : Nat} {X' : List Int} (h0 : M'.av 0 = T') (hat : ∀ i x, X'[i]? = some x → M'.av (2 + (T' + i) % c) = x)
    (hok : ownOk c M'.av T' X' o') (ha : o'.a = o.a) (hc : o'.c = o.c) (hw : o'.w = o.w) (htk : o'.tk = o.tk) (hd : depth o'.pc = depth o.pc + 1) (hb : -1 ≤ o'.b ∧ o'.b ≤ 100) (ht : -1 ≤ o'.t ∧ o'.t ≤ 100)
    (hp : isPush o'.pc = isPush o.pc) (hv : isPush o.pc = true → o'.v = o.v) (hth : ∀ o2, thOk T X (some o) o2 → thOk T' X' (some o') o2)
    (hperm : (infl (some o') ++ X').Perm (infl (some o) ++ X)) (hs : X'.Sublist X) (hr : T' + X'.length ≤ T + X.length) : PI push c (contG G 0 M' o') T' X' := by
  obtain ⟨q1, q2, q3, q4⟩ := H.own o ho
  have hbd : bd ((contG G 0 M' o').th 0) = bd (G.th 0) := by simp only [contG, upd_same, bd, ho, hp]
  have hS : (G.st ++ X').Sublist (G.st ++ X) := (List.Sublist.refl _).append hs
  refine ⟨h0, Nat.le_trans hs.length_le H.len, H.c0, hat, fun o2 e => ?_, fun e => ?_, fun t h1 h2 o2 e => ?_, ?_, H.srt.sublist hS, fun y hy => ?_, fun y hy => ?_, H.nd, ?_, ?_⟩
  · simp only [contG, upd_same, Option.some.injEq] at e
    subst e
    refine ⟨hok, ⟨ha.trans q2.a, hc.trans q2.c, hw.trans q2.w, ?_, hb, ht, ?_, ?_, ?_⟩, ?_, ?_⟩
    · simp only [contG, upd_same, hd, q2.steps]
    · simp only [contG, upd_same]; exact q2.ov
    · simp only [contG, upd_same]; exact q2.nx
    · rw [hp, htk]; exact q2.tk
    · simp only [contG, upd_same, hp]; exact q3
    · intro h; simp only [contG, upd_same]; rw [hp] at h; rw [hv h]; exact q4 h
  · simp only [contG, upd_same] at e; cases e
  · simp only [contG, upd_ne _ _ (show t ≠ 0 by omega)] at e
    obtain ⟨r1, r2⟩ := H.thi t h1 h2 o2 e
    rw [ho] at r1
    refine ⟨by simp only [contG, upd_same]; exact hth o2 r1, ?_⟩
    simp only [contG, upd_ne _ _ (show t ≠ 0 by omega)]; exact r2
  · have := H.perm
    rw [ho] at this
    simp only [contG, upd_same]
    exact (hperm.append_left _).trans this
  · rw [hbd]; exact H.lt1 y (hS.subset hy)
  · rw [hbd]; exact H.lt2 y hy
  · rw [hbd]; exact Nat.le_trans hr H.r
  · simp only [contG, upd_same]; exact H.nx
/-- The owner's operation is done. -/
theorem PI.ownEnd (H : PI push c G T X) {o o' : AO} (ho : (G.th 0).o = some o) {M' : AM} {T' : Nat} {X' : List Int} (h0 : M'.av 0 = T') (h1 : M'.av 1 = (T' : Int) + X'.length) (hlen : X'.length ≤ c) (hat : ∀ i x, X'[i]? = some x → M'.av (2 + (T' + i) % c) = x)
    (hth : ∀ o2, thOk T X (some o) o2 → thOk T' X' none o2)
    (hperm : ((endG push G 0 M' o').go ++ X').Perm (endG push G 0 M' o').pu) (hs : (G.st ++ X').Pairwise (· < ·)) (hl1 : ∀ y ∈ G.st ++ X', y < 100 + ((G.th 0).next : Int)) (hl2 : ∀ y ∈ (endG push G 0 M' o').pu, y < 100 + ((G.th 0).next : Int)) (hnd : (endG push G 0 M' o').pu.Nodup) (hr : T' + X'.length ≤ (G.th 0).next) : PI push c (endG push G 0 M' o') T' X' := by
  have hbd : bd ((endG push G 0 M' o').th 0) = (G.th 0).next := by simp only [endG, upd_same, bd]
  have hst : (endG push G 0 M' o').st = G.st := by simp [endG]
  refine ⟨h0, hlen, H.c0, hat, fun o2 e => ?_, fun _ => h1, fun t h1 h2 o2 e => ?_, ?_, by rw [hst]; exact hs, fun y hy => ?_, fun y hy => ?_, hnd, ?_, ?_⟩
  · simp only [endG, upd_same] at e; cases e
  · simp only [endG, upd_ne _ _ (show t ≠ 0 by omega)] at e
    obtain ⟨r1, r2⟩ := H.thi t h1 h2 o2 e
    rw [ho] at r1
    refine ⟨by simp only [endG, upd_same]; exact hth o2 r1, ?_⟩
    simp only [endG, upd_ne _ _ (show t ≠ 0 by omega)]; exact r2
  · have : infl ((endG push G 0 M' o').th 0).o = [] := by simp only [endG, upd_same, infl]
    rw [this, List.nil_append]; exact hperm
  · rw [hbd]; rw [hst] at hy; exact hl1 y hy
  · rw [hbd]; exact hl2 y hy
  · rw [hbd]; exact hr
  · simp only [endG, upd_same]; exact H.nx
/-- A thief's operation goes on. -/
theorem PI.thCont (H : PI push c G T X) {t : Nat} (h1 : 0 < t) (h2 : t < G.n) {o o' : AO} (ho : (G.th t).o = some o) {M' : AM} (hM : M'.av = G.M.av) (hok : thOk T X (G.th 0).o o') (ha : o'.a = o.a) (hc : o'.c = o.c) (hw : o'.w = o.w) (htk : o'.tk = o.tk) (hd : depth o'.pc = depth o.pc + 1) (hb : -1 ≤ o'.b ∧ o'.b ≤ 100) (ht : -1 ≤ o'.t ∧ o'.t ≤ 100) (hp : isPush o'.pc = isPush o.pc) : PI push c (contG G t M' o') T X := by
  have e0 : (contG G t M' o').th 0 = G.th 0 := upd_ne _ _ (by omega)
  obtain ⟨r1, r2⟩ := H.thi t h1 h2 o ho
  refine ⟨by simp only [contG, hM]; exact H.top, H.len, H.c0, by simp only [contG, hM]; exact H.at', by rw [e0]; simp only [contG, hM]; exact H.own, by rw [e0]; simp only [contG, hM]; exact H.idle, fun u h3 h4 o2 e => ?_, by rw [e0]; exact H.perm, H.srt, by rw [e0]; exact H.lt1, by rw [e0]; exact H.lt2, H.nd, by rw [e0]; exact H.r, by rw [e0]; exact H.nx⟩
  rw [e0]
  by_cases hu : u = t
  · subst hu
    simp only [contG, upd_same, Option.some.injEq] at e
    subst e
    refine ⟨hok, ⟨ha.trans r2.a, hc.trans r2.c, hw.trans r2.w, ?_, hb, ht, ?_, ?_, ?_⟩⟩
    · simp only [contG, upd_same, hd, r2.steps]
    · simp only [contG, upd_same]; exact r2.ov
    · simp only [contG, upd_same]; exact r2.nx
    · rw [hp, htk]; exact r2.tk
  · simp only [contG, upd_ne _ _ hu] at e ⊢
    exact H.thi u h3 h4 o2 e
/-- A thief's operation is done, and has got nothing. -/
theorem PI.thEnd0 (H : PI push c G T X) {t : Nat} (h1 : 0 < t) {o' : AO} {M' : AM} (hM : M'.av = G.M.av) (hw : o'.w ≠ 1) : PI push c (endG push G t M' o') T X := by
  have e0 : (endG push G t M' o').th 0 = G.th 0 := upd_ne _ _ (by omega)
  have e1 : (endG push G t M' o').pu = G.pu := by simp [endG, hw]
  have e2 : (endG push G t M' o').st = G.st := by simp [endG, hw]
  have e3 : (endG push G t M' o').go = G.go := by simp [endG, hw]
  refine ⟨by simp only [endG, hM]; exact H.top, H.len, H.c0, by simp only [endG, hM]; exact H.at', by rw [e0]; simp only [endG, hM]; exact H.own, by rw [e0]; simp only [endG, hM]; exact H.idle, fun u h3 h4 o2 e => ?_, by rw [e0, e1, e3]; exact H.perm, by rw [e2]; exact H.srt, by rw [e0, e2]; exact H.lt1, by rw [e0, e1]; exact H.lt2, by rw [e1]; exact H.nd, by rw [e0]; exact H.r, by rw [e0]; exact H.nx⟩
  rw [e0]
  by_cases hu : u = t
  · subst hu; simp only [endG, upd_same] at e; cases e
  · simp only [endG, upd_ne _ _ hu] at e ⊢
    exact H.thi u h3 h4 o2 e
theorem ownOk_steal {av : Nat → Int} {z : Int} {o : AO} (hn : G.n = G.n) (h : ownOk c av T (z :: X) o) (hv : vld (some o) (z :: X)) : ownOk c (upd av 0 ((T : Int) + 1)) (T + 1) X o := by
  have hv2 := hv.2
  rw [pend_some] at hv2
  obtain ⟨a, c', pc, w, tk, b, t, v⟩ := o
  have u1 : ∀ x, upd av 0 x 1 = av 1 := fun x => upd_ne _ _ (by omega)
  have u2 : ∀ x i, upd av 0 x (2 + i) = av (2 + i) := fun x i => upd_ne _ _ (by omega)
  cases pc <;> simp only [ownOk, u1, u2, List.length_cons] at h hv2 ⊢
  · omega
  · omega
  · omega
  · obtain ⟨g1, g2, g3, g4⟩ := h
    exact ⟨by omega, by omega, by omega, by rw [show T + 1 + X.length = T + (X.length + 1) by omega]; exact g4⟩
  · omega
  · omega
  · omega
  · exact absurd h.2.2 (by simp)
  · obtain ⟨g1, g2, g3, g4, g5, g6⟩ := h
    refine ⟨by omega, by omega, g3, g4, by omega, fun hh => ?_⟩
    have := hv2 ⟨trivial, hh⟩
    intro e; subst e; simp at this
  · obtain ⟨g1, g2, g3⟩ := h
    refine ⟨by omega, by omega, .inl ?_⟩
    rcases g3 with g3 | g3 <;> simp at g3
    exact g3.2
  · exact absurd h.2.2 (by simp)
  · exact absurd h.2.2 (by simp)
/-- A thief has got the first number. -/
theorem PI.thGot (H : PI push c G T X) {t : Nat} (h1 : 0 < t) {o' : AO} {M' : AM} {z : Int} {X' : List Int} (hX : X = z :: X') (hv : vld (G.th 0).o X) (hM : M'.av = upd G.M.av 0 ((T : Int) + 1)) (hw : o'.w = 1) (htk : o'.tk = true) (hz : o'.v = z) : PI push c (endG push G t M' o') (T + 1) X' := by
  subst hX
  have e0 : (endG push G t M' o').th 0 = G.th 0 := upd_ne _ _ (by omega)
  have e1 : (endG push G t M' o').pu = G.pu := by simp only [endG]; rw [if_neg (by omega)]
  have e2 : (endG push G t M' o').st = G.st ++ [z] := by simp only [endG]; rw [if_pos ⟨h1, htk, hw⟩, hz]
  have e3 : (endG push G t M' o').go = G.go ++ [z] := by simp only [endG]; rw [if_pos ⟨htk, hw⟩, hz]
  have hl := H.len
  have hr := H.r
  simp only [List.length_cons] at hl hr
  have u1 : ∀ x, upd G.M.av 0 x 1 = G.M.av 1 := fun x => upd_ne _ _ (by omega)
  have u2 : ∀ x i, upd G.M.av 0 x (2 + i) = G.M.av (2 + i) := fun x i => upd_ne _ _ (by omega)
  refine ⟨by simp only [endG, hM, upd_same]; omega, by omega, H.c0, fun i x e => ?_, fun o2 e => ?_, fun e => ?_, fun u h3 h4 o2 e => ?_, ?_, ?_, ?_, by rw [e0, e1]; exact H.lt2, by rw [e1]; exact H.nd, by rw [e0]; omega, by rw [e0]; exact H.nx⟩
  · simp only [endG, hM, u2]
    rw [show T + 1 + i = T + (i + 1) by omega]
    exact H.at' (i + 1) x (by simpa using e)
  · rw [e0] at e ⊢
    obtain ⟨q1, q2, q3, q4⟩ := H.own o2 e
    rw [e] at hv
    refine ⟨?_, q2, q3, q4⟩
    simp only [endG, hM]
    exact ownOk_steal (G := G) rfl q1 hv
  · rw [e0] at e
    have := H.idle e
    simp only [List.length_cons] at this
    simp only [endG, hM, u1]; omega
  · rw [e0]
    by_cases hu : u = t
    · subst hu; simp only [endG, upd_same] at e; cases e
    · simp only [endG, upd_ne _ _ hu] at e ⊢
      obtain ⟨r1, r2⟩ := H.thi u h3 h4 o2 e
      exact ⟨thOk_up r1, r2⟩
  · rw [e0, e1, e3]
    refine List.Perm.trans ?_ H.perm
    rw [List.perm_iff_count]
    intro x
    simp only [List.count_append, List.count_cons, List.count_nil]
    omega
  · rw [e2, List.append_assoc]; exact H.srt
  · rw [e0, e2, List.append_assoc]; exact H.lt1
end
end Go.Proofs.Ytjoldlaoncdcgaa
