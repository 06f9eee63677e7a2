/- A deque's operations, done one behind the other, do what they do to a list. The plain law. -/
import Derived.Test.YtjoldlaoncdcgaaDQ
set_option linter.unusedSimpArgs false
namespace Go.Proofs.Ytjoldlaoncdcgaa
theorem mod_ne {i j c : Nat} (h : i < j) (h2 : j < i + c) : i % c ≠ j % c := by
  intro e
  have h3 : (j - i) % c = 0 := by
    have := Nat.sub_mod_eq_zero_of_mod_eq e.symm
    exact this
  rw [Nat.mod_eq_of_lt (by omega)] at h3
  omega
/-- A deque at rest holds a list. -/
structure DInv (M : AM) (a c : Nat) (T : Nat) (X : List Int) : Prop where
  top : M.av a = T
  bot : M.av (a + 1) = ((T + X.length : Nat) : Int)
  len : X.length ≤ c
  c0 : 0 < c
  at' : ∀ i x, X[i]? = some x → M.av (a + 2 + (T + i) % c) = x
theorem DInv.cast {M M' : AM} {a c T : Nat} {X : List Int} (H : DInv M a c T X) (h : M'.av = M.av) : DInv M' a c T X :=
  ⟨by rw [h]; exact H.top, by rw [h]; exact H.bot, H.len, H.c0, fun i x e => by rw [h]; exact H.at' i x e⟩
/-- What an operation that is done alone comes to. -/
inductive Runs (tt : Nat) : AM → AO → Nat → AM → AO → Prop
  | nil (M : AM) (o : AO) : Runs tt M o 0 M o
  | step {M M1 M' : AM} {o o1 o' : AO} {n : Nat} (hf : Fits o M) (hw : o.w = 0) (e : stepO o M tt = (M1, o1)) (h : Runs tt M1 o1 n M' o') : Runs tt M o (n + 1) M' o'
theorem itS_tail (tt : Nat) (s : AM × AO) : ∀ i, itS tt s (i + 1) = itS tt (stp tt s) i
  | 0 => rfl
  | i + 1 => by
    show stp tt (itS tt s (i + 1)) = stp tt (itS tt (stp tt s) i)
    rw [itS_tail tt s i]
theorem Runs.all {tt : Nat} {M M' : AM} {o o' : AO} {n : Nat} (h : Runs tt M o n M' o') :
    (∀ i, i < n → Fits (itS tt (M, o) i).2 (itS tt (M, o) i).1 ∧ (itS tt (M, o) i).2.w = 0) ∧ itS tt (M, o) n = (M', o') := by
  induction h with
  | nil => exact ⟨fun i hi => absurd hi (Nat.not_lt_zero i), rfl⟩
  | step hf hw e h ih =>
    have hs : ∀ M o M1 o1, stepO o M tt = (M1, o1) → stp tt (M, o) = (M1, o1) := fun _ _ _ _ e => e
    refine ⟨fun i hi => ?_, by rw [itS_tail, hs _ _ _ _ e]; exact ih.2⟩
    cases i with
    | zero => exact ⟨hf, hw⟩
    | succ i => rw [itS_tail, hs _ _ _ _ e]; exact ih.1 i (by omega)
theorem load_av (M : AM) (t a : Nat) : (M.load t a).av = M.av := rfl
theorem store_av (M : AM) (t a : Nat) (x : Int) : (M.store t a x).av = upd M.av a x := rfl
theorem swap_av (M : AM) (t a : Nat) (o x : Int) : (M.swap t a o x).av = if M.av a = o then upd M.av a x else M.av := by
  unfold AM.swap; split <;> rfl
theorem swap_av_won {M : AM} {t a : Nat} {o x : Int} (h : M.av a = o) : (M.swap t a o x).av = upd M.av a x := by rw [swap_av, if_pos h]
theorem slotN_ge (a c : Nat) (n : Int) : a + 2 ≤ slotN a c n := by unfold slotN; omega
theorem small_nat {n : Nat} (h : n ≤ 1000000) : small (n : Int) := by unfold small; omega
theorem small_0 : small 0 := by unfold small; omega
theorem slotN_at (a c n : Nat) : slotN a c (n : Int) = a + 2 + n % c := by unfold slotN; rw [Int.toNat_natCast]
section
variable {M : AM} {a c T : Nat} {X : List Int} {z : Int} (tt : Nat)
theorem push_full (H : DInv M a c T X) (hT : T + X.length ≤ 1000) (v : Int) (hf : c ≤ X.length) :
    ∃ M' o', Runs tt M (.push a c v) 2 M' o' ∧ DInv M' a c T X ∧ o'.w = 4 ∧ o'.tk = false := by
  have ht := H.top
  have hb := H.bot
  have g : (c : Int) ≤ ((T + X.length : Nat) : Int) - (T : Int) := by omega
  generalize hB : ((T + X.length : Nat) : Int) = B at *
  refine ⟨_, _, .step (M1 := M.load tt (a + 1)) (o1 := ⟨a, c, .pushTop, 0, false, B, 0, v⟩) ⟨?_, ?_, ?_, ?_, ?_, ?_⟩ rfl ?_ (.step (M1 := (M.load tt (a + 1)).load tt a) (o1 := ⟨a, c, .pushTop, 4, false, B, T, v⟩) ⟨?_, ?_, ?_, ?_, ?_, ?_⟩ rfl ?_ (.nil _ _)), H.cast rfl, rfl, rfl⟩
  all_goals try simp only [AO.push, stepO, load_av, ht, hb, g, if_true, small]
  all_goals first | omega | simp
theorem push_fine (H : DInv M a c T X) (hT : T + X.length ≤ 1000) (v : Int) (hf : X.length < c) :
    ∃ M' o', Runs tt M (.push a c v) 4 M' o' ∧ DInv M' a c T (X ++ [v]) ∧ o'.w = 1 ∧ o'.tk = false := by
  have ht := H.top
  have hb := H.bot
  have g : ¬ (c : Int) ≤ ((T + X.length : Nat) : Int) - (T : Int) := by omega
  have sn := slotN_at a c (T + X.length)
  generalize hB : ((T + X.length : Nat) : Int) = B at *
  have s0 : a ≠ slotN a c B := by have := slotN_ge a c B; omega
  have s1 : a + 1 ≠ slotN a c B := by have := slotN_ge a c B; omega
  refine ⟨_, _, .step (M1 := M.load tt (a + 1)) (o1 := ⟨a, c, .pushTop, 0, false, B, 0, v⟩) ⟨?_, ?_, ?_, ?_, ?_, ?_⟩ rfl ?_ (.step (M1 := (M.load tt (a + 1)).load tt a) (o1 := ⟨a, c, .pushSlot, 0, false, B, T, v⟩) ⟨?_, ?_, ?_, ?_, ?_, ?_⟩ rfl ?_
    (.step (M1 := ((M.load tt (a + 1)).load tt a).store tt (slotN a c B) v) (o1 := ⟨a, c, .pushDone, 0, false, B, T, v⟩) ⟨?_, ?_, ?_, ?_, ?_, ?_⟩ rfl ?_
    (.step (M1 := (((M.load tt (a + 1)).load tt a).store tt (slotN a c B) v).store tt (a + 1) (B + 1)) (o1 := ⟨a, c, .pushDone, 1, false, B, T, v⟩) ⟨?_, ?_, ?_, ?_, ?_, ?_⟩ rfl ?_ (.nil _ _)))), ⟨?_, ?_, ?_, H.c0, fun i x e => ?_⟩, rfl, rfl⟩
  all_goals try simp only [AO.push, stepO, load_av, store_av, upd_same, upd_ne _ _ s0, upd_ne _ _ s1, upd_ne _ _ (show a ≠ a + 1 by omega), ht, hb, g, if_false, small, List.length_append, List.length_singleton]
  all_goals first | omega | (simp; done) | (simp only [upd]; (repeat' split) <;> omega) | skip
  · rw [upd_ne _ _ (by omega), sn]
    by_cases hi : i < X.length
    · rw [upd_ne _ _ (by have := mod_ne (i := T + i) (j := T + X.length) (c := c) (by omega) (by omega); omega)]
      rw [List.getElem?_append_left hi] at e
      exact H.at' i x e
    · have hi2 : i = X.length := by
        have := (List.getElem?_eq_some_iff.1 e).1
        simp at this; omega
      subst hi2
      rw [upd_same]
      simpa using e
theorem pop_none (H : DInv M a c T []) (hT : T ≤ 1000) :
    ∃ M' o', Runs tt M (.pop a c) 4 M' o' ∧ DInv M' a c T [] ∧ o'.w = 2 ∧ o'.tk = true := by
  have ht := H.top
  have hb := H.bot
  simp only [List.length_nil, Nat.add_zero] at hb
  have g : (T : Int) - 1 < (T : Int) := by omega
  refine ⟨_, _, .step (M1 := M.load tt (a + 1)) (o1 := ⟨a, c, .popStore, 0, true, T - 1, 0, 0⟩) ⟨?_, ?_, ?_, ?_, ?_, ?_⟩ rfl ?_ (.step (M1 := (M.load tt (a + 1)).store tt (a + 1) (T - 1)) (o1 := ⟨a, c, .popTop, 0, true, T - 1, 0, 0⟩) ⟨?_, ?_, ?_, ?_, ?_, ?_⟩ rfl ?_
    (.step (M1 := ((M.load tt (a + 1)).store tt (a + 1) (T - 1)).load tt a) (o1 := ⟨a, c, .popNone, 0, true, T - 1, T, 0⟩) ⟨?_, ?_, ?_, ?_, ?_, ?_⟩ rfl ?_
    (.step (M1 := (((M.load tt (a + 1)).store tt (a + 1) (T - 1)).load tt a).store tt (a + 1) T) (o1 := ⟨a, c, .popNone, 2, true, T - 1, T, 0⟩) ⟨?_, ?_, ?_, ?_, ?_, ?_⟩ rfl ?_ (.nil _ _)))), ⟨?_, ?_, ?_, H.c0, fun i x e => ?_⟩, rfl, rfl⟩
  all_goals try simp only [AO.pop, stepO, load_av, store_av, upd_same, upd_ne _ _ (show a ≠ a + 1 by omega), ht, hb, g, if_true, small, List.length_nil, Nat.add_zero]
  all_goals first | omega | (simp; done) | (simp only [upd]; (repeat' split) <;> omega) | skip
  · simp at e
theorem pop_one (H : DInv M a c T [z]) (hT : T ≤ 1000) :
    ∃ M' o', Runs tt M (.pop a c) 6 M' o' ∧ DInv M' a c (T + 1) [] ∧ o'.w = 1 ∧ o'.tk = true ∧ o'.v = z := by
  have ht := H.top
  have hb := H.bot
  have hz := H.at' 0 z rfl
  simp only [List.length_singleton, Nat.add_zero] at hb hz
  have g0 : ((T + 1 : Nat) : Int) - 1 = T := by omega
  have g : ¬ (T : Int) < (T : Int) := by omega
  have sn := slotN_at a c T
  have s2 : a + 2 + T % c ≠ a + 1 := by omega
  have u1 : upd M.av (a + 1) (T : Int) a = T := by rw [upd_ne _ _ (by omega), ht]
  have u2 : M.av (a + 2 + (T : Nat) % c) = z := hz
  refine ⟨_, _, .step (M1 := M.load tt (a + 1)) (o1 := ⟨a, c, .popStore, 0, true, T, 0, 0⟩) ⟨?_, ?_, ?_, ?_, ?_, ?_⟩ rfl ?_ (.step (M1 := (M.load tt (a + 1)).store tt (a + 1) T) (o1 := ⟨a, c, .popTop, 0, true, T, 0, 0⟩) ⟨?_, ?_, ?_, ?_, ?_, ?_⟩ rfl ?_
    (.step (M1 := ((M.load tt (a + 1)).store tt (a + 1) T).load tt a) (o1 := ⟨a, c, .popSlot, 0, true, T, T, 0⟩) ⟨?_, ?_, ?_, ?_, ?_, ?_⟩ rfl ?_
    (.step (M1 := (((M.load tt (a + 1)).store tt (a + 1) T).load tt a).load tt (slotN a c T)) (o1 := ⟨a, c, .popSwap, 0, true, T, T, z⟩) ⟨?_, ?_, ?_, ?_, ?_, ?_⟩ rfl ?_
    (.step (M1 := ((((M.load tt (a + 1)).store tt (a + 1) T).load tt a).load tt (slotN a c T)).swap tt a T (T + 1)) (o1 := ⟨a, c, .popWon, 0, true, T, T, z⟩) ⟨?_, ?_, ?_, ?_, ?_, ?_⟩ rfl ?_
    (.step (M1 := (((((M.load tt (a + 1)).store tt (a + 1) T).load tt a).load tt (slotN a c T)).swap tt a T (T + 1)).store tt (a + 1) (T + 1)) (o1 := ⟨a, c, .popWon, 1, true, T, T, z⟩) ⟨?_, ?_, ?_, ?_, ?_, ?_⟩ rfl ?_ (.nil _ _)))))), ⟨?_, ?_, ?_, H.c0, fun i x e => by simp at e⟩, rfl, rfl, rfl⟩
  all_goals try simp only [AO.pop, stepO, load_av, store_av, swap_av_won, upd_same, upd_ne _ _ (show a ≠ a + 1 by omega), upd_ne _ _ (show a + 1 ≠ a by omega), sn, upd_ne _ _ s2, hz, ht, hb, g0, g, if_true, if_false, small, List.length_nil, Nat.add_zero]
  all_goals first | omega | (simp; done) | (simp only [upd]; (repeat' split) <;> omega) | skip
theorem pop_more (H : DInv M a c T (X ++ [z])) (hT : T + X.length ≤ 1000) (hx : 0 < X.length) :
    ∃ M' o', Runs tt M (.pop a c) 4 M' o' ∧ DInv M' a c T X ∧ o'.w = 1 ∧ o'.tk = true ∧ o'.v = z := by
  have ht := H.top
  have hb := H.bot
  have hl := H.len
  have hz := H.at' X.length z (by simp)
  simp only [List.length_append, List.length_singleton] at hb hl
  have g0 : ((T + (X.length + 1) : Nat) : Int) - 1 = ((T + X.length : Nat) : Int) := by omega
  have g : ¬ ((T + X.length : Nat) : Int) < (T : Int) := by omega
  have g2 : (T : Int) < ((T + X.length : Nat) : Int) := by omega
  have sn := slotN_at a c (T + X.length)
  generalize hB : ((T + X.length : Nat) : Int) = B at *
  have s2 : a + 2 + (T + X.length) % c ≠ a + 1 := by omega
  refine ⟨_, _, .step (M1 := M.load tt (a + 1)) (o1 := ⟨a, c, .popStore, 0, true, B, 0, 0⟩) ⟨?_, ?_, ?_, ?_, ?_, ?_⟩ rfl ?_ (.step (M1 := (M.load tt (a + 1)).store tt (a + 1) B) (o1 := ⟨a, c, .popTop, 0, true, B, 0, 0⟩) ⟨?_, ?_, ?_, ?_, ?_, ?_⟩ rfl ?_
    (.step (M1 := ((M.load tt (a + 1)).store tt (a + 1) B).load tt a) (o1 := ⟨a, c, .popSlot, 0, true, B, T, 0⟩) ⟨?_, ?_, ?_, ?_, ?_, ?_⟩ rfl ?_
    (.step (M1 := (((M.load tt (a + 1)).store tt (a + 1) B).load tt a).load tt (slotN a c B)) (o1 := ⟨a, c, .popSlot, 1, true, B, T, z⟩) ⟨?_, ?_, ?_, ?_, ?_, ?_⟩ rfl ?_ (.nil _ _)))), ⟨?_, ?_, ?_, H.c0, fun i x e => ?_⟩, rfl, rfl, rfl⟩
  all_goals try simp only [AO.pop, stepO, load_av, store_av, upd_same, upd_ne _ _ (show a ≠ a + 1 by omega), sn, upd_ne _ _ s2, hz, ht, hb, g0, g, g2, if_true, if_false, small]
  all_goals first | omega | (simp; done) | (simp only [upd]; (repeat' split) <;> omega) | skip
  · have hi := (List.getElem?_eq_some_iff.1 e).1
    rw [upd_ne _ _ (by omega)]
    exact H.at' i x (by rw [List.getElem?_append_left hi]; exact e)
theorem steal_none (H : DInv M a c T []) (hT : T ≤ 1000) :
    ∃ M' o', Runs tt M (.steal a c) 2 M' o' ∧ DInv M' a c T [] ∧ o'.w = 2 ∧ o'.tk = true := by
  have ht := H.top
  have hb := H.bot
  simp only [List.length_nil, Nat.add_zero] at hb
  have g : (T : Int) ≤ (T : Int) := by omega
  refine ⟨_, _, .step (M1 := M.load tt a) (o1 := ⟨a, c, .stealBottom, 0, true, 0, T, 0⟩) ⟨?_, ?_, ?_, ?_, ?_, ?_⟩ rfl ?_ (.step (M1 := (M.load tt a).load tt (a + 1)) (o1 := ⟨a, c, .stealBottom, 2, true, T, T, 0⟩) ⟨?_, ?_, ?_, ?_, ?_, ?_⟩ rfl ?_ (.nil _ _)), H.cast rfl, rfl, rfl⟩
  all_goals try simp only [AO.steal, stepO, load_av, ht, hb, g, if_true, small]
  all_goals first | omega | (simp; done) | (simp only [upd]; (repeat' split) <;> omega) | skip
theorem steal_fine (H : DInv M a c T (z :: X)) (hT : T + X.length ≤ 1000) :
    ∃ M' o', Runs tt M (.steal a c) 4 M' o' ∧ DInv M' a c (T + 1) X ∧ o'.w = 1 ∧ o'.tk = true ∧ o'.v = z := by
  have ht := H.top
  have hb := H.bot
  have hl := H.len
  have hz := H.at' 0 z rfl
  simp only [List.length_cons, Nat.add_zero] at hb hl hz
  have g : ¬ ((T + (X.length + 1) : Nat) : Int) ≤ (T : Int) := by omega
  have sn := slotN_at a c T
  generalize hB : ((T + (X.length + 1) : Nat) : Int) = B at *
  refine ⟨_, _, .step (M1 := M.load tt a) (o1 := ⟨a, c, .stealBottom, 0, true, 0, T, 0⟩) ⟨?_, ?_, ?_, ?_, ?_, ?_⟩ rfl ?_ (.step (M1 := (M.load tt a).load tt (a + 1)) (o1 := ⟨a, c, .stealSlot, 0, true, B, T, 0⟩) ⟨?_, ?_, ?_, ?_, ?_, ?_⟩ rfl ?_
    (.step (M1 := ((M.load tt a).load tt (a + 1)).load tt (slotN a c T)) (o1 := ⟨a, c, .stealSwap, 0, true, B, T, z⟩) ⟨?_, ?_, ?_, ?_, ?_, ?_⟩ rfl ?_
    (.step (M1 := (((M.load tt a).load tt (a + 1)).load tt (slotN a c T)).swap tt a T (T + 1)) (o1 := ⟨a, c, .stealSwap, 1, true, B, T, z⟩) ⟨?_, ?_, ?_, ?_, ?_, ?_⟩ rfl ?_ (.nil _ _)))), ⟨?_, ?_, ?_, H.c0, fun i x e => ?_⟩, rfl, rfl, rfl⟩
  all_goals try simp only [AO.steal, stepO, load_av, store_av, swap_av_won, upd_same, upd_ne _ _ (show a + 1 ≠ a by omega), sn, hz, ht, hb, g, if_true, if_false, small]
  all_goals first | omega | (simp; done) | (simp only [upd]; (repeat' split) <;> omega) | skip
  · rw [upd_ne _ _ (by omega), show T + 1 + i = T + (i + 1) by omega]
    exact H.at' (i + 1) x (by simpa using e)
end
end Go.Proofs.Ytjoldlaoncdcgaa
