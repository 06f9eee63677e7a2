/- Slices of ints as arguments, and rounds that may hand back. -/
import Derived.Test.YtjgnjpbplnmdmaaEng17
namespace Go.Proofs.Ytjgnjpbplnmdmaa
open Go
/-- A loop that leaves by an exit behind N rounds, if no round handed back ahead of that. -/
theorem iter_until {f : St → Option (Ex × St)} {cl : St → St} {S : Nat → St → Prop} {Re Rr : St → Prop} {N e : Nat}
    (step : ∀ i s, i < N → S i s → (∃ s', f (cl s) = some (.nrm, s') ∧ S (i + 1) s') ∨ (∃ s', f (cl s) = some (.ret, s') ∧ Rr s'))
    (last : ∀ s, S N s → ∃ s', f (cl s) = some (.exit e, s') ∧ Re s') :
    ∀ (d i : Nat) (s : St) (n : Nat), i + d = N → d < n → S i s → (∃ s', iter f cl n s = some (.exit e, s') ∧ Re s') ∨ (∃ s', iter f cl n s = some (.ret, s') ∧ Rr s')
  | 0, i, s, n + 1, hi, _, hs => by
    obtain rfl : i = N := by omega
    obtain ⟨s', h1, h2⟩ := last s hs
    exact .inl ⟨s', by simp only [iter, h1], h2⟩
  | d + 1, i, s, n + 1, hi, hn, hs => by
    rcases step i s (by omega) hs with ⟨s', h1, h2⟩ | ⟨s', h1, h2⟩
    · rcases iter_until step last d (i + 1) s' n (by omega) (by omega) h2 with ⟨s'', h3, h4⟩ | ⟨s'', h3, h4⟩
      · exact .inl ⟨s'', by simp only [iter, h1]; exact h3, h4⟩
      · exact .inr ⟨s'', by simp only [iter, h1]; exact h3, h4⟩
    · exact .inr ⟨s', by simp only [iter, h1], h2⟩
/-- The temporaries, one by one. -/
theorem tlist (T : List LV) : T = (List.range T.length).map (getT T) := by
  refine List.ext_getElem (by simp) fun i h1 h2 => ?_
  simp only [List.getElem_map, List.getElem_range]
  clear h2
  induction T generalizing i with
  | nil => simp at h1
  | cons x T ih =>
    cases i with
    | zero => rfl
    | succ i => simpa [getT] using ih i (by simpa using h1)
/-- A slice of these ints. -/
structure SlI (l : List Int) (S : LV) : Prop where
  len : lenE S = some (.i l.length)
  cl : closed S = true
  atm : atomB S = true
  cells : S.cells = [S]
  ix : ∀ n : Int, 0 ≤ n → n < l.length → ixsE 1 S (.i n) = some (.pi ((l.map LV.i).drop n.toNat))
  pu : ∀ n, purge n S = S
  fr : ∀ h, frz h S = S
  sr : srefs S = []
  kpu : ∀ n K, kpurge n K S = S
theorem closedL_ints : ∀ l : List Int, closedL (l.map LV.i) = true
  | [] => rfl
  | x :: l => by simp [closedL, closed, closedL_ints l]
theorem purgeL_ints (n : Nat) : ∀ l : List Int, purgeL n (l.map LV.i) = l.map LV.i
  | [] => rfl
  | x :: l => by simp [purgeL, purge, purgeL_ints n l]
theorem kpurgeL_ints (n : Nat) (K : List Nat) : ∀ l : List Int, kpurgeL n K (l.map LV.i) = l.map LV.i
  | [] => rfl
  | x :: l => by simp [kpurgeL, kpurge, kpurgeL_ints n K l]
theorem slI_nil : SlI [] .nils := ⟨rfl, rfl, rfl, rfl, fun n h1 h2 => by simp at h2; omega, fun _ => rfl, fun _ => rfl, rfl, fun _ _ => rfl⟩
theorem slI_im (l : List Int) (b : Bool) : SlI l (.im (l.map LV.i) l.length b) := by
  refine ⟨rfl, ?_, rfl, rfl, fun n h1 h2 => ?_, fun n => ?_, fun _ => rfl, rfl, fun n K => ?_⟩
  · show closedL _ = true; exact closedL_ints l
  · rw [ixsE_im, if_pos ⟨h1, h2⟩, Nat.mul_one]
  · show LV.im (purgeL n _) _ _ = _; rw [purgeL_ints]
  · show LV.im (kpurgeL n K _) _ _ = _; rw [kpurgeL_ints]
theorem rd_ints (l : List Int) (n : Nat) (h : n < l.length) : rdAt ((l.map LV.i).drop n) 0 none = some (.i (l.getD n 0)) := by
  simp [rdAt, h]
theorem rd_ints' (l : List Int) (n : Nat) (h : n < l.length) : ((l.map LV.i).drop n)[0]? = some (.i (l.getD n 0)) := by
  simp [h]
/-- What comes in as a slice of ints. -/
theorem slI_of {cs : List LV} (h : Is (.sl (.i .i64)) cs) : ∃ l S, cs = [S] ∧ SlI l S ∧ ∀ n ∈ l, -9223372036854775808 ≤ n ∧ n ≤ 9223372036854775807 := by
  rcases h with rfl | ⟨L, rfl, hlen, hL⟩
  · exact ⟨[], _, rfl, slI_nil, fun n hn => by simp at hn⟩
  · clear hlen
    have : ∃ l : List Int, L.flatten = l.map LV.i ∧ L.length = l.length ∧ ∀ n ∈ l, -9223372036854775808 ≤ n ∧ n ≤ 9223372036854775807 := by
      induction L with
      | nil => exact ⟨[], rfl, rfl, fun n hn => by simp at hn⟩
      | cons x L ih =>
        obtain ⟨l, h1, h2, h3⟩ := ih (fun y hy => hL y (by simp [hy]))
        obtain ⟨n, hn, hn1, hn2⟩ := hL x (by simp)
        refine ⟨n :: l, by simp [hn, h1], by simp [h2], fun m hm => ?_⟩
        rcases List.mem_cons.1 hm with rfl | hm
        · exact ⟨hn1, hn2⟩
        · exact h3 m hm
    obtain ⟨l, h1, h2, h3⟩ := this
    exact ⟨l, _, by rw [h1, h2], slI_im l false, h3⟩
/-! ### calls of what is read and not written -/
mutual
theorem frz_flat (h : List Row) : ∀ r : LV, flat (frz h r) = true → frz h r = r
  | .v x, _ => rfl
  | .p _ _ _, _ => rfl
  | .f _ _, _ => rfl
  | .im _ _ _, _ => rfl
  | .pi _, _ => rfl
  | .bad, _ => rfl
  | .sl k ver off len esz cap, hf => by
    exfalso
    simp only [frz] at hf
    split at hf
    · split at hf <;> simp [flat] at hf
    · simp [flat] at hf
  | .agg cs, hf => by
    simp only [frz, flat] at hf ⊢
    rw [frzL_flat h cs hf]
  | .tup cs, hf => by
    simp only [frz, flat] at hf ⊢
    rw [frzL_flat h cs hf]
  | .ifc t x, hf => by
    simp only [frz, flat] at hf ⊢
    rw [frz_flat h x hf]
theorem frzL_flat (h : List Row) : ∀ l : List LV, flatL (frzL h l) = true → frzL h l = l
  | [], _ => rfl
  | x :: l, hf => by
    simp only [frzL, flatL, Bool.and_eq_true] at hf ⊢
    rw [frz_flat h x hf.1, frzL_flat h l hf.2]
end
def callX (cal : Callee) (quiet : Bool) (lim : Nat) (h : List Row) (f : LV) (ar : List LV) : Option (LV × List Row) := callE cal quiet lim h f ar
def orF (x : Option LV) (h : List Row) (y : Option (LV × List Row)) : Option (LV × List Row) :=
  match x with
  | some r => if flat r then some (r, h) else y
  | none => y
theorem orF_some {r : LV} {h : List Row} {y : Option (LV × List Row)} : orF (some r) h y = if flat r then some (r, h) else y := rfl
theorem call_B {cal : Callee} {q : Bool} {lim : Nat} {h : List Row} {g : FuncId} {ar cap : List LV} (hc : closedL (ar ++ cap) = false) (hf : closedL (frzL h (ar ++ cap)) = true) :
    callE cal q lim h (.f g cap) ar = orF (evP cal g (frzL h (ar ++ cap))) h (callX cal q lim h (.f g cap) ar) := by
  cases hev : evP cal g (frzL h (ar ++ cap)) with
  | none => rfl
  | some r0 =>
    rw [orF_some]
    split
    · rename_i hfl
      unfold evP at hev
      split at hev
      · rename_i r h' hr
        split at hev
        · obtain rfl := Option.some.inj hev
          have e := frz_flat h' r hfl
          rw [e] at hfl ⊢
          cases q <;> simp only [callE, callG, callQ, isoE, hc, hf, hr, hfl, Bool.false_eq_true, if_false, if_true, List.append_nil]
        · cases hev
      · cases hev
    · rfl
/-- So many of one. -/
def reps (x : LV) : Nat → List LV
  | 0 => []
  | i + 1 => reps x i ++ [x]
theorem reps_length (x : LV) : ∀ i, (reps x i).length = i
  | 0 => rfl
  | i + 1 => by simp [reps, reps_length x i]
theorem reps_ints (n : Int) : ∀ i, reps (.i n) i = (List.replicate i n).map LV.i
  | 0 => rfl
  | i + 1 => by rw [List.replicate_succ', List.map_append, ← reps_ints n i]; rfl
theorem reps_kpurge (n : Int) (m : Nat) (K : List Nat) (i : Nat) : kpurgeL m K (reps (.i n) i) = reps (.i n) i := by rw [reps_ints, kpurgeL_ints]
theorem reps_closed (n : Int) (i : Nat) : closedL (reps (.i n) i) = true := by rw [reps_ints, closedL_ints]
end Go.Proofs.Ytjgnjpbplnmdmaa
