/- Threads that do steps by picks, and then by turns: their runs. -/
import Derived.Test.YtbmfmcimcdajcaaD34
set_option linter.unusedSimpArgs false
set_option linter.unusedVariables false
namespace Go.Proofs.Ytbmfmcimcdajcaa
open Go
/-- What is left of each, the picks that are left, who came last, who did steps. -/
structure Mch where
  L : List Int
  P : List Int
  last : Int
  out : List Int
def Mch.tn (m : Mch) : Nat := match m.P with
  | p :: _ => (liv m.L).getD (p % ((liv m.L).length : Int)).toNat 0
  | [] => (ring m.L m.last).headD 0
def Mch.next (m : Mch) : Mch := ⟨dec m.L m.tn, m.P.tail, m.tn, m.out ++ [(m.tn : Int)]⟩
def Mch.done (most : Int) (m : Mch) : Prop := liv m.L = [] ∨ most ≤ (m.out.length : Int)
instance (most : Int) (m : Mch) : Decidable (m.done most) := inferInstanceAs (Decidable (_ ∨ _))
def fin (most : Int) : Nat → Mch → Mch
  | 0, m => m
  | n + 1, m => if m.done most then m else fin most n m.next
def mu (L : List Int) : Nat := (L.map Int.toNat).sum
def sts : Nat → Mch → Mch
  | 0, m => m
  | i + 1, m => (sts i m).next
theorem tn_mem (m : Mch) (h : liv m.L ≠ []) : m.tn ∈ liv m.L := by
  unfold Mch.tn
  have hl : 0 < (liv m.L).length := List.length_pos_iff.2 h
  split
  · rename_i p q hp
    have h1 := Int.emod_nonneg p (show ((liv m.L).length : Int) ≠ 0 by omega)
    have h2 := Int.emod_lt_of_pos p (show (0 : Int) < ((liv m.L).length : Int) by omega)
    have h3 : (p % ((liv m.L).length : Int)).toNat < (liv m.L).length := by omega
    rw [List.getD_eq_getElem?_getD, List.getElem?_eq_getElem h3]
    exact List.getElem_mem h3
  · cases hr : ring m.L m.last with
    | nil =>
      have := ring_length m.L m.last
      rw [hr] at this; simp at this; omega
    | cons x q =>
      exact mem_ring.1 (by rw [hr]; simp)
theorem mu_set : ∀ (L : List Int) (t : Nat), t < L.length → 0 < L.getD t 0 → mu (L.set t (L.getD t 0 - 1)) + 1 = mu L
  | [], t, h, _ => by simp at h
  | x :: L, 0, _, h => by
    simp only [List.getD_cons_zero] at h ⊢
    simp only [mu, List.set_cons_zero, List.map_cons, List.sum_cons]
    omega
  | x :: L, t + 1, h, h' => by
    simp only [List.getD_cons_succ] at h' ⊢
    have := mu_set L t (by simpa using h) h'
    simp only [mu, List.set_cons_succ, List.map_cons, List.sum_cons] at this ⊢
    omega
theorem mu_dec {L : List Int} {t : Nat} (h : t ∈ liv L) : mu (dec L t) + 1 = mu L := by
  obtain ⟨a, b⟩ := mem_liv.1 h
  exact mu_set L t a b
theorem mu_pos : ∀ {L : List Int} {t : Nat}, t < L.length → 0 < L.getD t 0 → 0 < mu L
  | [], t, h, _ => by simp at h
  | x :: L, 0, _, h => by simp only [List.getD_cons_zero] at h; simp only [mu, List.map_cons, List.sum_cons]; omega
  | x :: L, t + 1, h, h' => by
    simp only [List.getD_cons_succ] at h'
    have := mu_pos (by simpa using h) h'
    simp only [mu, List.map_cons, List.sum_cons] at this ⊢
    omega
theorem mu_nil {L : List Int} : liv L = [] ↔ mu L = 0 := by
  constructor
  · intro h
    induction L with
    | nil => rfl
    | cons x L ih =>
      have h0 : ∀ t, ¬ (t < (x :: L).length ∧ 0 < (x :: L).getD t 0) := fun t ht => by
        have := mem_liv.2 ht; rw [h] at this; simp at this
      have hx := h0 0
      simp at hx
      have : liv L = [] := by
        refine List.eq_nil_iff_forall_not_mem.2 fun t ht => ?_
        obtain ⟨a, b⟩ := mem_liv.1 ht
        exact h0 (t + 1) ⟨by simpa using a, by simpa using b⟩
      have := ih this
      simp only [mu, List.map_cons, List.sum_cons] at this ⊢
      omega
  · intro h
    refine List.eq_nil_iff_forall_not_mem.2 fun t ht => ?_
    obtain ⟨a, b⟩ := mem_liv.1 ht
    have := mu_pos a b
    omega
theorem next_mu {m : Mch} {most : Int} (h : ¬ m.done most) : mu m.next.L + 1 = mu m.L := by
  have : liv m.L ≠ [] := fun e => h (.inl e)
  exact mu_dec (tn_mem m this)
/-- It ends. -/
theorem fin_done (most : Int) : ∀ (n : Nat) (m : Mch), mu m.L ≤ n → (fin most n m).done most
  | 0, m, h => .inl (mu_nil.2 (show mu m.L = 0 by omega))
  | n + 1, m, h => by
    unfold fin
    split
    · assumption
    · rename_i hd
      have := next_mu hd
      exact fin_done most n _ (by omega)
theorem fin_of {Q : Mch → Prop} (most : Int) (step : ∀ m, Q m → ¬ m.done most → Q m.next) : ∀ (n : Nat) (m : Mch), Q m → Q (fin most n m)
  | 0, m, h => h
  | n + 1, m, h => by
    unfold fin
    split
    · exact h
    · rename_i hd
      exact fin_of most step n _ (step m h hd)
/-- A loop that does what the machine does. -/
theorem iter_mch {f : St → Option (Ex × St)} {cl : St → St} {S : Mch → St → Prop} {R : Mch → St → Prop} {inv : Mch → Prop} {most : Int} {e : Nat}
    (hinv : ∀ m, inv m → ¬ m.done most → inv m.next)
    (step : ∀ m s, inv m → ¬ m.done most → S m s → ∃ s', f (cl s) = some (.nrm, s') ∧ S m.next s')
    (last : ∀ m s, inv m → m.done most → S m s → ∃ s', f (cl s) = some (.exit e, s') ∧ R m s') :
    ∀ (d : Nat) (m : Mch) (s : St) (n : Nat), mu m.L = d → d < n → inv m → S m s → ∃ s', iter f cl n s = some (.exit e, s') ∧ R (fin most d m) s'
  | 0, m, s, n + 1, hi, _, hv, hs => by
    obtain ⟨s', h1, h2⟩ := last m s hv (.inl (mu_nil.2 hi)) hs
    exact ⟨s', by simp only [iter, h1], h2⟩
  | d + 1, m, s, n + 1, hi, hn, hv, hs => by
    by_cases hd : m.done most
    · obtain ⟨s', h1, h2⟩ := last m s hv hd hs
      refine ⟨s', by simp only [iter, h1], ?_⟩
      unfold fin
      rw [if_pos hd]; exact h2
    · obtain ⟨s', h1, h2⟩ := step m s hv hd hs
      have := next_mu hd
      obtain ⟨s'', h3, h4⟩ := iter_mch hinv step last d m.next s' n (by omega) (by omega) (hinv m hv hd) h2
      refine ⟨s'', by simp only [iter, h1]; exact h3, ?_⟩
      unfold fin
      rw [if_neg hd]; exact h4
/-- The start. -/
def m0 (L P : List Int) : Mch := ⟨L, P, -1, []⟩
def res (L P : List Int) (most : Int) : Mch := fin most (mu L) (m0 L P)
/-! ### each does as many steps as it has -/
def Cnts (L0 : List Int) (m : Mch) : Prop := m.L.length = L0.length ∧ ∀ i : Nat, i < L0.length → m.L.getD i 0 + (m.out.count (i : Int) : Int) = L0.getD i 0 ∧ (m.L.getD i 0 = L0.getD i 0 ∨ 0 ≤ m.L.getD i 0)
theorem cnts_next {L0 : List Int} {m : Mch} {most : Int} (h : Cnts L0 m) (hd : ¬ m.done most) : Cnts L0 m.next := by
  have hl : liv m.L ≠ [] := fun e => hd (.inl e)
  obtain ⟨a, b⟩ := mem_liv.1 (tn_mem m hl)
  refine ⟨by simp only [Mch.next, dec_length]; exact h.1, fun i hi => ?_⟩
  obtain ⟨c, d⟩ := h.2 i hi
  simp only [Mch.next, dec_get a, List.count_append, List.count_singleton]
  by_cases hit : i = m.tn
  · rw [if_pos hit, if_pos (by simp [hit]), ← hit]
    rw [← hit] at b
    omega
  · rw [if_neg hit, if_neg (by simp; omega)]
    exact ⟨by omega, d⟩
theorem res_cnts (L P : List Int) (most : Int) : Cnts L (res L P most) :=
  fin_of most (fun m h hd => cnts_next h hd) _ _ ⟨rfl, fun i hi => ⟨by simp [m0], .inl rfl⟩⟩
theorem res_all {L P : List Int} {most : Int} (h : liv (res L P most).L = []) {i : Nat} (hi : i < L.length) : ((res L P most).out.count (i : Int) : Int) = if L.getD i 0 < 0 then 0 else L.getD i 0 := by
  obtain ⟨hl, hc⟩ := res_cnts L P most
  obtain ⟨a, b⟩ := hc i hi
  have : ¬ 0 < (res L P most).L.getD i 0 := fun hp => by
    have := mem_liv.2 ⟨by omega, hp⟩
    rw [h] at this; simp at this
  split <;> omega
theorem fin_most {most : Int} (h : most < 1) : ∀ (n : Nat) (m : Mch), fin most n m = m
  | 0, m => rfl
  | n + 1, m => by unfold fin; rw [if_pos (.inr (by omega))]
/-! ### the states on the way -/
theorem sts_next : ∀ (i : Nat) (m : Mch), sts i m.next = sts (i + 1) m
  | 0, m => rfl
  | i + 1, m => by show (sts i m.next).next = _; rw [sts_next i m]; rfl
theorem fin_sts (most : Int) : ∀ (n : Nat) (m : Mch), ∃ N, N ≤ n ∧ fin most n m = sts N m ∧ ∀ i, i < N → ¬ (sts i m).done most
  | 0, m => ⟨0, Nat.le_refl _, rfl, fun i hi => by omega⟩
  | n + 1, m => by
    unfold fin
    split
    · exact ⟨0, by omega, rfl, fun i hi => by omega⟩
    · rename_i hd
      obtain ⟨N, h1, h2, h3⟩ := fin_sts most n m.next
      refine ⟨N + 1, by omega, by rw [h2, sts_next], fun i hi => ?_⟩
      cases i with
      | zero => exact hd
      | succ i => rw [← sts_next]; exact h3 i (by omega)
theorem sts_out : ∀ (i : Nat) (m : Mch), (sts i m).out = m.out ++ (List.range i).map (fun j => ((sts j m).tn : Int))
  | 0, m => by simp [sts]
  | i + 1, m => by
    show (sts i m).next.out = _
    rw [List.range_succ, List.map_append, ← List.append_assoc, ← sts_out i m]
    rfl
theorem sts_P : ∀ (i : Nat) (m : Mch), (sts i m).P = m.P.drop i
  | 0, m => by simp [sts]
  | i + 1, m => by
    show (sts i m).P.tail = _
    rw [sts_P i m, List.tail_drop]
theorem fair : ∀ (d : Nat) (m : Mch) (t : Nat), m.P = [] → (ring m.L m.last)[d]? = some t → (sts d m).tn = t
  | 0, m, t, hP, h => by
    show m.tn = t
    unfold Mch.tn
    rw [hP]
    cases hr : ring m.L m.last with
    | nil => rw [hr] at h; simp at h
    | cons x q => rw [hr] at h; simpa using h
  | d + 1, m, t, hP, h => by
    cases hr : ring m.L m.last with
    | nil => rw [hr] at h; simp at h
    | cons x q =>
      have htn : m.tn = x := fair 0 m x hP (by rw [hr]; rfl)
      rw [hr] at h
      simp only [List.getElem?_cons_succ] at h
      have hn := ring_next m.last hr
      rw [← sts_next]
      refine fair d m.next t (by simp [Mch.next, hP]) ?_
      show (ring (dec m.L m.tn) (m.tn : Int))[d]? = _
      rw [htn, hn, List.getElem?_append_left]
      · exact h
      · exact (List.getElem?_eq_some_iff.1 h).1
/-- Each live one comes, among as many steps as there are live ones. -/
theorem fair_in {m : Mch} {t : Nat} (hP : m.P = []) (ht : t ∈ liv m.L) : ∃ d, d < (liv m.L).length ∧ (sts d m).tn = t := by
  obtain ⟨d, hd⟩ := List.mem_iff_getElem?.1 (mem_ring.2 ht : t ∈ ring m.L m.last)
  have := (List.getElem?_eq_some_iff.1 hd).1
  rw [ring_length] at this
  exact ⟨d, this, fair d m t hP hd⟩
theorem sts_add (d : Nat) : ∀ (i : Nat) (m : Mch), sts d (sts i m) = sts (i + d) m
  | 0, m => by rw [Nat.zero_add]; rfl
  | i + 1, m => by
    show sts d (sts i m).next = _
    rw [sts_next, sts_add (d + 1) i m]
    congr 1; omega
/-- The run with room for all. -/
theorem run_all {L P : List Int} {most : Int} (h : (mu L : Int) < most) : res L P most = sts (mu L) (m0 L P) ∧ liv (res L P most).L = [] ∧ (res L P most).out.length = mu L ∧ ∀ i, i < mu L → liv (sts i (m0 L P)).L ≠ [] := by
  obtain ⟨N, h1, h2, h3⟩ := fin_sts most (mu L) (m0 L P)
  have hd := fin_done most (mu L) (m0 L P) (Nat.le_refl _)
  have hlen : ∀ i, (sts i (m0 L P)).out.length = i := fun i => by rw [sts_out]; simp [m0]
  have hmu : ∀ i, i ≤ N → mu (sts i (m0 L P)).L + i = mu L := by
    intro i
    induction i with
    | zero => intro _; rfl
    | succ i ih =>
      intro hi
      have := ih (by omega)
      have h4 := next_mu (h3 i (by omega))
      show mu (sts i (m0 L P)).next.L + (i + 1) = _
      omega
  have hN := hmu N (Nat.le_refl _)
  rw [h2] at hd
  have hl : liv (sts N (m0 L P)).L = [] := by
    rcases hd with hd | hd
    · exact hd
    · rw [hlen] at hd; omega
  have hN0 : N = mu L := by have := mu_nil.1 hl; omega
  subst hN0
  refine ⟨h2, by unfold res; rw [h2]; exact hl, by unfold res; rw [h2]; exact hlen _, fun i hi e => ?_⟩
  exact h3 i hi (.inl e)
end Go.Proofs.Ytbmfmcimcdajcaa
