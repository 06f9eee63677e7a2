/- Threads that do steps by picks, and then by turns: the plain law. -/
import Derived.Test.YtbmfmcimcdajcaaEng20
set_option linter.unusedSimpArgs false
set_option linter.unusedVariables false
namespace Go.Proofs.Ytbmfmcimcdajcaa
open Go
/-! ### which threads are live -/
def lvb (L : List Int) (i : Nat) : Bool := decide (0 < L.getD i 0)
def liv (L : List Int) : List Nat := (List.range L.length).filter (lvb L)
def cnt (L : List Int) (i : Nat) : Nat := ((List.range i).filter (lvb L)).length
theorem cnt_succ (L : List Int) (i : Nat) : cnt L (i + 1) = cnt L i + (if lvb L i then 1 else 0) := by
  unfold cnt
  rw [List.range_succ, List.filter_append, List.length_append]
  by_cases h : lvb L i = true <;> simp [h]
theorem cnt_le (L : List Int) : ∀ i, cnt L i ≤ i
  | 0 => Nat.le_refl _
  | i + 1 => by have := cnt_le L i; rw [cnt_succ]; split <;> omega
theorem cnt_mono (L : List Int) {i j : Nat} (h : i ≤ j) : cnt L i ≤ cnt L j := by
  induction j with
  | zero => obtain rfl : i = 0 := by omega
            exact Nat.le_refl _
  | succ j ih =>
    by_cases hij : i = j + 1
    · subst hij; exact Nat.le_refl _
    · have := ih (by omega); rw [cnt_succ]; omega
theorem liv_length (L : List Int) : (liv L).length = cnt L L.length := rfl
theorem mem_liv {L : List Int} {t : Nat} : t ∈ liv L ↔ t < L.length ∧ 0 < L.getD t 0 := by
  simp [liv, lvb]
theorem liv_sorted (L : List Int) : (liv L).Pairwise (· < ·) := List.Pairwise.filter _ List.pairwise_lt_range
theorem liv_nodup (L : List Int) : (liv L).Nodup := List.Pairwise.imp (fun h => Nat.ne_of_lt h) (liv_sorted L)
theorem filter_range_get (p : Nat → Bool) : ∀ (n m t : Nat), ((List.range n).filter p)[m]? = some t → p t = true ∧ t < n ∧ ((List.range t).filter p).length = m
  | 0, m, t, h => by simp at h
  | n + 1, m, t, h => by
    rw [List.range_succ, List.filter_append, List.getElem?_append] at h
    split at h
    · obtain ⟨a, b, c⟩ := filter_range_get p n m t h
      exact ⟨a, by omega, c⟩
    · rename_i hl
      by_cases hp : p n = true
      · simp [hp] at h
        have h2 : m - ((List.range n).filter p).length = 0 := by
          rcases hh : m - ((List.range n).filter p).length with _ | d
          · rfl
          · rw [hh] at h; simp at h
        rw [h2] at h
        simp at h
        subst h
        exact ⟨hp, by omega, by omega⟩
      · simp [hp] at h
theorem liv_get {L : List Int} {m t : Nat} (h : (liv L)[m]? = some t) : 0 < L.getD t 0 ∧ t < L.length ∧ cnt L t = m := by
  obtain ⟨a, b, c⟩ := filter_range_get _ _ _ _ h
  exact ⟨by simpa [lvb] using a, b, c⟩
/-! ### around -/
def ring (L : List Int) (last : Int) : List Nat := (liv L).filter (fun t : Nat => decide (last < (t : Int))) ++ (liv L).filter (fun t : Nat => !decide (last < (t : Int)))
theorem split_sorted (last : Int) : ∀ l : List Nat, l.Pairwise (· < ·) → l = l.filter (fun t : Nat => !decide (last < (t : Int))) ++ l.filter (fun t : Nat => decide (last < (t : Int)))
  | [], _ => rfl
  | x :: l, h => by
    obtain ⟨h1, h2⟩ := List.pairwise_cons.1 h
    by_cases hx : last < (x : Int)
    · have e1 : ∀ y ∈ x :: l, last < (y : Int) := by
        intro y hy
        rcases List.mem_cons.1 hy with rfl | hy
        · exact hx
        · have := h1 y hy; omega
      rw [List.filter_eq_nil_iff.2 (fun y hy => by simp [e1 y hy]), List.filter_eq_self.2 (fun y hy => by simp [e1 y hy])]
      rfl
    · rw [List.filter_cons_of_pos (by simp [hx]), List.filter_cons_of_neg (by simp [hx]), List.cons_append, ← split_sorted last l h2]
theorem mem_ring {L : List Int} {last : Int} {t : Nat} : t ∈ ring L last ↔ t ∈ liv L := by
  simp only [ring, List.mem_append, List.mem_filter]
  by_cases h : last < (t : Int) <;> simp [h]
theorem ring_length (L : List Int) (last : Int) : (ring L last).length = (liv L).length := by
  have := congrArg List.length (split_sorted last (liv L) (liv_sorted L))
  simp only [List.length_append] at this
  simp only [ring, List.length_append]
  omega
/-- The place that is looked up, around, names the first around. -/
theorem ring_head {L : List Int} (last : Int) (h : liv L ≠ []) : (liv L)[((liv L).filter (fun t : Nat => !decide (last < (t : Int)))).length % (liv L).length]? = some ((ring L last).headD 0) := by
  have hs := split_sorted last (liv L) (liv_sorted L)
  have hl := congrArg List.length hs
  rw [List.length_append] at hl
  unfold ring
  have h0 : 0 < (liv L).length := List.length_pos_iff.2 h
  cases hb : (liv L).filter (fun t : Nat => decide (last < (t : Int))) with
  | nil =>
    rw [hb] at hs hl
    rw [List.append_nil] at hs
    simp only [List.length_nil, Nat.add_zero] at hl
    rw [← hl, Nat.mod_self, List.nil_append, ← hs]
    cases hq : liv L with
    | nil => exact absurd hq h
    | cons x l => rfl
  | cons x l =>
    rw [hb] at hs hl
    simp only [List.length_cons] at hl
    rw [Nat.mod_eq_of_lt (by omega)]
    generalize (liv L).filter (fun t : Nat => !decide (last < (t : Int))) = A at *
    rw [hs, List.getElem?_append_right (Nat.le_refl _)]
    simp
/-- The first around, by counting on. -/
theorem after_spec {L : List Int} (last : Int) (h : liv L ≠ []) (h1 : -1 ≤ last) (h2 : last < L.length) :
    ∃ K t : Nat, t = (ring L last).headD 0 ∧ 1 ≤ K ∧ K ≤ L.length ∧ ((last + K) % (L.length : Int)) = (t : Int) ∧ t < L.length ∧ 0 < L.getD t 0 ∧
      ∀ j : Nat, 1 ≤ j → j < K → ¬ 0 < L.getD ((last + j) % (L.length : Int)).toNat 0 := by
  have key : ∀ t : Nat, t < L.length → 0 < L.getD t 0 → t ∈ liv L := fun t a b => mem_liv.2 ⟨a, b⟩
  unfold ring
  have hb' := liv_sorted L
  cases hb : (liv L).filter (fun t : Nat => decide (last < (t : Int))) with
  | cons x l =>
    have hx : x ∈ (liv L).filter (fun t : Nat => decide (last < (t : Int))) := by rw [hb]; simp
    obtain ⟨hx1, hx2⟩ := List.mem_filter.1 hx
    obtain ⟨hx3, hx4⟩ := mem_liv.1 hx1
    have hx2' : last < (x : Int) := by simpa using hx2
    have hp : (x :: l).Pairwise (· < ·) := by rw [← hb]; exact List.Pairwise.filter _ hb'
    have hmin : ∀ y, y ∈ liv L → last < (y : Int) → x ≤ y := by
      intro y hy hy2
      have : y ∈ x :: l := by rw [← hb]; exact List.mem_filter.2 ⟨hy, by simpa using hy2⟩
      rcases List.mem_cons.1 this with rfl | h
      · exact Nat.le_refl _
      · have := (List.pairwise_cons.1 hp).1 y h; omega
    refine ⟨((x : Int) - last).toNat, x, rfl, by omega, by omega, ?_, hx3, hx4, ?_⟩
    · rw [show last + (((x : Int) - last).toNat : Int) = (x : Int) by omega]
      exact Int.emod_eq_of_lt (by omega) (by omega)
    · intro j hj1 hj2 hlv
      have e : (last + (j : Int)) % (L.length : Int) = last + j := Int.emod_eq_of_lt (by omega) (by omega)
      rw [e] at hlv
      have := hmin (last + j).toNat (key _ (by omega) hlv) (by omega)
      omega
  | nil =>
    have hall : ∀ y, y ∈ liv L → ¬ last < (y : Int) := by
      intro y hy hlt
      have : y ∈ (liv L).filter (fun t : Nat => decide (last < (t : Int))) := List.mem_filter.2 ⟨hy, by simpa using hlt⟩
      rw [hb] at this; simp at this
    rw [List.filter_eq_self.2 (fun y hy => by simp [hall y hy])]
    cases hq : liv L with
    | nil => exact absurd hq h
    | cons x l =>
      rw [hq] at hb'
      have hx1 : x ∈ liv L := by rw [hq]; simp
      obtain ⟨hx3, hx4⟩ := mem_liv.1 hx1
      have hx5 := hall x hx1
      have hmin : ∀ y, y ∈ liv L → x ≤ y := by
        intro y hy
        rw [hq] at hy
        rcases List.mem_cons.1 hy with rfl | h
        · exact Nat.le_refl _
        · have := (List.pairwise_cons.1 hb').1 y h; omega
      refine ⟨((L.length : Int) - last + x).toNat, x, rfl, by omega, by omega, ?_, hx3, hx4, ?_⟩
      · rw [show last + (((L.length : Int) - last + x).toNat : Int) = (x : Int) + L.length by omega, Int.add_emod_right]
        exact Int.emod_eq_of_lt (by omega) (by omega)
      · intro j hj1 hj2 hlv
        by_cases hj : last + j < (L.length : Int)
        · have e : (last + (j : Int)) % (L.length : Int) = last + j := Int.emod_eq_of_lt (by omega) hj
          rw [e] at hlv
          exact hall _ (key _ (by omega) hlv) (by omega)
        · have e : (last + (j : Int)) % (L.length : Int) = last + j - L.length := by
            rw [show last + (j : Int) = (last + j - L.length) + L.length by omega, Int.add_emod_right]
            rw [Int.emod_eq_of_lt (by omega) (by omega)]
            omega
          rw [e] at hlv
          have := hmin _ (key _ (by omega) hlv)
          omega
/-! ### a step -/
def dec (L : List Int) (t : Nat) : List Int := L.set t (L.getD t 0 - 1)
theorem dec_length (L : List Int) (t : Nat) : (dec L t).length = L.length := by simp [dec]
theorem dec_get {L : List Int} {t i : Nat} (h : t < L.length) : (dec L t).getD i 0 = if i = t then L.getD t 0 - 1 else L.getD i 0 := by
  unfold dec
  by_cases hi : i = t
  · subst hi; simp [h]
  · simp [hi, List.getElem?_set, Ne.symm hi]
theorem liv_dec {L : List Int} {t : Nat} (h : t < L.length) (hp : 0 < L.getD t 0) : liv (dec L t) = if L.getD t 0 = 1 then (liv L).filter (fun i : Nat => decide (i ≠ t)) else liv L := by
  unfold liv
  rw [dec_length]
  split
  · rename_i h1
    rw [List.filter_filter]
    refine List.filter_congr fun i hi => ?_
    unfold lvb
    rw [dec_get h]
    by_cases hi : i = t
    · subst hi; rw [if_pos rfl, h1]; simp
    · simp [hi]
  · rename_i h1
    refine List.filter_congr fun i hi => ?_
    unfold lvb
    rw [dec_get h]
    by_cases hi : i = t
    · subst hi
      rw [if_pos rfl, decide_eq_true (by omega), decide_eq_true hp]
    · simp [hi]
theorem erase_filter {l : List Nat} (hn : l.Nodup) {i t : Nat} (h : l[i]? = some t) : l.filter (fun x => decide (x ≠ t)) = l.eraseIdx i := by
  induction l generalizing i with
  | nil => simp at h
  | cons x l ih =>
    obtain ⟨h1, h2⟩ := List.nodup_cons.1 hn
    cases i with
    | zero =>
      simp at h
      subst h
      simp
      intro a ha
      rintro rfl; exact h1 ha
    | succ i =>
      simp at h
      have hx : x ≠ t := by rintro rfl; exact h1 (List.mem_of_getElem? h)
      simp [hx, ← ih h2 h]
/-- The first around goes to the end, if it lives on. -/
theorem ring_next {L : List Int} (last : Int) {t : Nat} {q : List Nat} (h : ring L last = t :: q) : ring (dec L t) t = q ++ (if L.getD t 0 = 1 then [] else [t]) := by
  have ht : t ∈ liv L := mem_ring.1 (by rw [h]; simp)
  obtain ⟨ht1, ht2⟩ := mem_liv.1 ht
  have hs := liv_sorted L
  have h' := h
  unfold ring at h
  have hnd : (ring L last).Nodup := by
    unfold ring
    refine List.nodup_append.2 ⟨List.Pairwise.filter _ (liv_nodup L), List.Pairwise.filter _ (liv_nodup L), ?_⟩
    intro a ha b hb
    have := (List.mem_filter.1 ha).2
    have := (List.mem_filter.1 hb).2
    rintro rfl
    simp_all
  rw [h'] at hnd
  obtain ⟨htq, hq⟩ := List.nodup_cons.1 hnd
  unfold ring
  cases hb : (liv L).filter (fun t : Nat => decide (last < (t : Int))) with
  | cons x l =>
    rw [hb] at h
    simp only [List.cons_append, List.cons.injEq] at h
    obtain ⟨rfl, rfl⟩ := h
    have hx : x ∈ (liv L).filter (fun t : Nat => decide (last < (t : Int))) := by rw [hb]; simp
    have hx2 : last < (x : Int) := by simpa using (List.mem_filter.1 hx).2
    have hp : (x :: l).Pairwise (· < ·) := by rw [← hb]; exact List.Pairwise.filter _ hs
    have g1 : (liv L).filter (fun t : Nat => decide ((x : Int) < (t : Int))) = l := by
      have : (liv L).filter (fun t : Nat => decide ((x : Int) < (t : Int))) = ((liv L).filter (fun t : Nat => decide (last < (t : Int)))).filter (fun t : Nat => decide ((x : Int) < (t : Int))) := by
        rw [List.filter_filter]
        refine List.filter_congr fun i hi => ?_
        by_cases hi : (x : Int) < i
        · have : last < (i : Int) := by omega
          simp [hi, this]
        · simp [hi]
      rw [this, hb, List.filter_cons_of_neg (by simp)]
      refine List.filter_eq_self.2 fun y hy => ?_
      have := (List.pairwise_cons.1 hp).1 y hy
      simpa using this
    have g2 : (liv L).filter (fun t : Nat => !decide ((x : Int) < (t : Int))) = (liv L).filter (fun t : Nat => !decide (last < (t : Int))) ++ [x] := by
      have e := split_sorted last (liv L) hs
      rw [hb] at e
      have e1 : ((liv L).filter (fun t : Nat => !decide (last < (t : Int)))).filter (fun t : Nat => !decide ((x : Int) < (t : Int))) = (liv L).filter (fun t : Nat => !decide (last < (t : Int))) :=
        List.filter_eq_self.2 (fun y hy => by
          have := (List.mem_filter.1 hy).2
          have : ¬ last < (y : Int) := by simpa using this
          simp; omega)
      have e2 : (x :: l).filter (fun t : Nat => !decide ((x : Int) < (t : Int))) = [x] := by
        rw [List.filter_cons_of_pos (by simp), List.filter_eq_nil_iff.2 (fun y hy => by
          have := (List.pairwise_cons.1 hp).1 y hy
          simp; omega)]
      conv => lhs; rw [e]
      rw [List.filter_append, e1, e2]
    rw [liv_dec ht1 ht2]
    split
    · rename_i h1
      rw [List.filter_filter, List.filter_filter]
      rw [show (fun a : Nat => decide ((x : Int) < (a : Int)) && decide (a ≠ x)) = (fun a : Nat => decide ((x : Int) < (a : Int))) from by
        funext a
        by_cases ha : a = x
        · subst ha; simp
        · simp [ha]]
      rw [g1, ← List.filter_filter (p := fun a : Nat => !decide ((x : Int) < (a : Int))), List.filter_filter]
      rw [show (fun a : Nat => !decide ((x : Int) < (a : Int)) && decide (a ≠ x)) = (fun a : Nat => decide (a ≠ x) && !decide ((x : Int) < (a : Int))) from by funext a; rw [Bool.and_comm]]
      rw [← List.filter_filter, g2, List.filter_append]
      rw [List.filter_eq_self.2 (fun y hy => by
        have := (List.mem_filter.1 hy).2
        have : ¬ last < (y : Int) := by simpa using this
        simp; omega)]
      simp
    · rw [g1, g2, ← List.append_assoc]
  | nil =>
    rw [hb] at h
    have hall : ∀ y, y ∈ liv L → ¬ last < (y : Int) := by
      intro y hy hlt
      have : y ∈ (liv L).filter (fun t : Nat => decide (last < (t : Int))) := List.mem_filter.2 ⟨hy, by simpa using hlt⟩
      rw [hb] at this; simp at this
    rw [List.nil_append, List.filter_eq_self.2 (fun y hy => by simp [hall y hy])] at h
    rw [h] at hs
    have hp := List.pairwise_cons.1 hs
    have g1 : (liv L).filter (fun i : Nat => decide ((t : Int) < (i : Int))) = q := by
      rw [h, List.filter_cons_of_neg (by simp)]
      refine List.filter_eq_self.2 fun y hy => ?_
      have := hp.1 y hy
      simpa using this
    have g2 : (liv L).filter (fun i : Nat => !decide ((t : Int) < (i : Int))) = [t] := by
      rw [h, List.filter_cons_of_pos (by simp), List.filter_eq_nil_iff.2 (fun y hy => by
        have := hp.1 y hy
        simp; omega)]
    rw [liv_dec ht1 ht2]
    split
    · rename_i h1
      rw [List.filter_filter, List.filter_filter]
      rw [show (fun a : Nat => decide ((t : Int) < (a : Int)) && decide (a ≠ t)) = (fun a : Nat => decide ((t : Int) < (a : Int))) from by
        funext a
        by_cases ha : a = t
        · subst ha; simp
        · simp [ha]]
      rw [g1]
      rw [show (fun a : Nat => !decide ((t : Int) < (a : Int)) && decide (a ≠ t)) = (fun a : Nat => decide (a ≠ t) && !decide ((t : Int) < (a : Int))) from by funext a; rw [Bool.and_comm]]
      rw [← List.filter_filter, g2]
      simp
    · rw [g1, g2]
end Go.Proofs.Ytbmfmcimcdajcaa
