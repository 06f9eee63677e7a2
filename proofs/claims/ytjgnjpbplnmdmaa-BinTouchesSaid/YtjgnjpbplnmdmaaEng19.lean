/- Slices of things of several ints each. -/
import Derived.Test.YtjgnjpbplnmdmaaEng18
namespace Go.Proofs.Ytjgnjpbplnmdmaa
open Go
/-- A slice of n things of e ints each; all the ints are l. -/
structure SlE (e n : Nat) (l : List Int) (S : LV) : Prop where
  len : lenE S = some (.i n)
  cl : closed S = true
  atm : atomB S = true
  cells : S.cells = [S]
  ix : ∀ i : Nat, i < n → ixsE e S (.i i) = some (.pi ((l.map LV.i).drop (i * e)))
  pu : ∀ n, purge n S = S
  fr : ∀ h, frz h S = S
  sr : srefs S = []
  kpu : ∀ n K, kpurge n K S = S
  sz : l.length = n * e
theorem slE_nil (e : Nat) : SlE e 0 [] .nils := ⟨rfl, rfl, rfl, rfl, fun n h => by omega, fun _ => rfl, fun _ => rfl, rfl, fun _ _ => rfl, by simp⟩
theorem slE_im (e n : Nat) (l : List Int) (b : Bool) (h : l.length = n * e) : SlE e n l (.im (l.map LV.i) n b) := by
  refine ⟨rfl, ?_, rfl, rfl, fun i hi => ?_, fun n => ?_, fun _ => rfl, rfl, fun n K => ?_, h⟩
  · show closedL _ = true; exact closedL_ints l
  · rw [ixsE_im, if_pos ⟨by omega, by omega⟩, Int.toNat_natCast]
  · show LV.im (purgeL n _) _ _ = _; rw [purgeL_ints]
  · show LV.im (kpurgeL n K _) _ _ = _; rw [kpurgeL_ints]
/-- The ints from a place on. -/
theorem dropE (l : List Int) : ∀ (e k : Nat), k + e ≤ l.length → ∃ rest, (l.map LV.i).drop k = (List.range e).map (fun j => LV.i (l.getD (k + j) 0)) ++ rest
  | 0, k, _ => ⟨_, rfl⟩
  | e + 1, k, h => by
    obtain ⟨rest, hr⟩ := dropE l e k (by omega)
    have hl : (List.map (fun j => LV.i (l.getD (k + j) 0)) (List.range e)).length = e := by simp
    have h1 : k + e < (l.map LV.i).length := by simp; omega
    have h2 : (l.map LV.i).drop (k + e) = rest := by
      rw [← List.drop_drop, hr, List.drop_append_of_le_length (by omega), List.drop_of_length_le (by omega)]; rfl
    have h3 := List.drop_eq_getElem_cons h1
    rw [h2] at h3
    refine ⟨(l.map LV.i).drop (k + e + 1), ?_⟩
    rw [hr, List.range_succ, List.map_append, List.append_assoc, h3]
    have h4 : k + e < l.length := by omega
    simp [h4]
/-- What comes in as a slice of such things. -/
theorem slE_of {sh : Sh} {e : Nat} {cs : List LV} (he : ∀ x, Is sh x → ∃ l : List Int, x = l.map LV.i ∧ l.length = e ∧ ∀ n ∈ l, -9223372036854775808 ≤ n ∧ n ≤ 9223372036854775807)
    (h : Is (.sl sh) cs) : ∃ n l S, cs = [S] ∧ SlE e n l S ∧ ∀ n ∈ l, -9223372036854775808 ≤ n ∧ n ≤ 9223372036854775807 := by
  rcases h with rfl | ⟨L, rfl, hlen, hL⟩
  · exact ⟨0, [], _, rfl, slE_nil e, fun n hn => by simp at hn⟩
  · clear hlen
    have : ∃ l : List Int, L.flatten = l.map LV.i ∧ l.length = L.length * e ∧ ∀ n ∈ l, -9223372036854775808 ≤ n ∧ n ≤ 9223372036854775807 := by
      induction L with
      | nil => exact ⟨[], rfl, by simp, fun n hn => by simp at hn⟩
      | cons x L ih =>
        obtain ⟨l, h1, h2, h3⟩ := ih (fun y hy => hL y (by simp [hy]))
        obtain ⟨l', h4, h5, h6⟩ := he x (hL x (by simp))
        refine ⟨l' ++ l, by rw [List.flatten_cons, h4, h1, List.map_append], by rw [List.length_append, h5, h2, List.length_cons, Nat.add_mul]; omega, fun m hm => ?_⟩
        rcases List.mem_append.1 hm with hm | hm
        · exact h6 m hm
        · exact h3 m hm
    obtain ⟨l, h1, h2, h3⟩ := this
    exact ⟨L.length, l, _, by rw [h1], slE_im e _ l false h2, h3⟩
/-- A slice that grows by things of e cells. -/
def outG (e r0 : Nat) : Nat → LV
  | 0 => .nils
  | i + 1 => .sl r0 i 0 (i + 1) e (i + 1)
def tailG : Nat → List Int → List Row
  | 0, _ => []
  | i + 1, l => [⟨i, l.map LV.i⟩]
def slvE (n : Nat) (l : List Int) : LV := match n with
  | 0 => .nils
  | n + 1 => .im (l.map LV.i) (n + 1) false
theorem slvE_is (e n : Nat) (l : List Int) (h : l.length = n * e) : SlE e n l (slvE n l) := by
  cases n with
  | zero =>
    have : l = [] := List.eq_nil_of_length_eq_zero (by omega)
    subst this
    exact slE_nil e
  | succ n => exact slE_im e (n + 1) l false h
theorem kp_ints (m : Nat) (K : List Nat) (l r : List Int) : kpurgeL m K (l.map LV.i ++ r.map LV.i) = (l ++ r).map LV.i := by
  rw [← List.map_append, kpurgeL_ints]
end Go.Proofs.Ytjgnjpbplnmdmaa
