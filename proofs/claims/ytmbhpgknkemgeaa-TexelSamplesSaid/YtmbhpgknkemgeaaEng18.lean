/- Slices of ints as arguments, and rounds that may hand back. -/
import Derived.Test.YtmbhpgknkemgeaaEng17
namespace Go.Proofs.Ytmbhpgknkemgeaa
open Go
/-- A loop that leaves by an exit behind N rounds, if no round handed back ahead of that. -/
theorem iter_until {f : St → Option (Ex × St)} {cl : St → St} {S : Nat → St → Prop} {Re Rr : St → Prop} {N e : Nat}
    (step : ∀ i s, i < N → S i s → (∃ s', f (cl s) = some (.nrm, s') ∧ S (i + 1) s') ∨ (∃ s', f (cl s) = some (.ret, s') ∧ Rr s'))
    (last : ∀ s, S N s → ∃ s', f (cl s) = some (.exit e, s') ∧ Re s') :
    ∀ (d i : Nat) (s : St) (n : Nat), i + d = N → d < n → S i s → (∃ s', iter f cl n s = some (.exit e, s') ∧ Re s') ∨ (∃ s', iter f cl n s = some (.ret, s') ∧ Rr s')
  | 0, i, s, n + 1, hi, _, hs => by
    obtain rfl : i = N := by omega
    obtain ⟨s', h1, h2⟩ := last s hs
    exact .inl ⟨s', by simp only [iter, h1], h2⟩
  | d + 1, i, s, n + 1, hi, hn, hs => by
    rcases step i s (by omega) hs with ⟨s', h1, h2⟩ | ⟨s', h1, h2⟩
    · rcases iter_until step last d (i + 1) s' n (by omega) (by omega) h2 with ⟨s'', h3, h4⟩ | ⟨s'', h3, h4⟩
      · exact .inl ⟨s'', by simp only [iter, h1]; exact h3, h4⟩
      · exact .inr ⟨s'', by simp only [iter, h1]; exact h3, h4⟩
    · exact .inr ⟨s', by simp only [iter, h1], h2⟩
/-- The temporaries, one by one. -/
theorem tlist (T : List LV) : T = (List.range T.length).map (getT T) := by
  refine List.ext_getElem (by simp) fun i h1 h2 => ?_
  simp only [List.getElem_map, List.getElem_range]
  clear h2
  induction T generalizing i with
  | nil => simp at h1
  | cons x T ih =>
    cases i with
    | zero => rfl
    | succ i => simpa [getT] using ih i (by simpa using h1)
/-- A slice of these ints. -/
structure SlI (l : List Int) (S : LV) : Prop where
  len : lenE S = some (.i l.length)
  cl : closed S = true
  atm : atomB S = true
  cells : S.cells = [S]
  ix : ∀ n : Int, 0 ≤ n → n < l.length → ixsE 1 S (.i n) = some (.pi ((l.map LV.i).drop n.toNat))
  pu : ∀ n, purge n S = S
  fr : ∀ h, frz h S = S
theorem closedL_ints : ∀ l : List Int, closedL (l.map LV.i) = true
  | [] => rfl
  | x :: l => by simp [closedL, closed, closedL_ints l]
theorem purgeL_ints (n : Nat) : ∀ l : List Int, purgeL n (l.map LV.i) = l.map LV.i
  | [] => rfl
  | x :: l => by simp [purgeL, purge, purgeL_ints n l]
theorem slI_nil : SlI [] .nils := ⟨rfl, rfl, rfl, rfl, fun n h1 h2 => by simp at h2; omega, fun _ => rfl, fun _ => rfl⟩
theorem slI_im (l : List Int) (b : Bool) : SlI l (.im (l.map LV.i) l.length b) := by
  refine ⟨rfl, ?_, rfl, rfl, fun n h1 h2 => ?_, fun n => ?_, fun _ => rfl⟩
  · show closedL _ = true; exact closedL_ints l
  · rw [ixsE_im, if_pos ⟨h1, h2⟩, Nat.mul_one]
  · show LV.im (purgeL n _) _ _ = _; rw [purgeL_ints]
theorem rd_ints (l : List Int) (n : Nat) (h : n < l.length) : rdAt ((l.map LV.i).drop n) 0 none = some (.i (l.getD n 0)) := by
  simp [rdAt, h]
theorem rd_ints' (l : List Int) (n : Nat) (h : n < l.length) : ((l.map LV.i).drop n)[0]? = some (.i (l.getD n 0)) := by
  simp [h]
/-- What comes in as a slice of ints. -/
theorem slI_of {cs : List LV} (h : Is (.sl (.i .i64)) cs) : ∃ l S, cs = [S] ∧ SlI l S ∧ ∀ n ∈ l, -9223372036854775808 ≤ n ∧ n ≤ 9223372036854775807 := by
  rcases h with rfl | ⟨L, rfl, hlen, hL⟩
  · exact ⟨[], _, rfl, slI_nil, fun n hn => by simp at hn⟩
  · clear hlen
    have : ∃ l : List Int, L.flatten = l.map LV.i ∧ L.length = l.length ∧ ∀ n ∈ l, -9223372036854775808 ≤ n ∧ n ≤ 9223372036854775807 := by
      induction L with
      | nil => exact ⟨[], rfl, rfl, fun n hn => by simp at hn⟩
      | cons x L ih =>
        obtain ⟨l, h1, h2, h3⟩ := ih (fun y hy => hL y (by simp [hy]))
        obtain ⟨n, hn, hn1, hn2⟩ := hL x (by simp)
        refine ⟨n :: l, by simp [hn, h1], by simp [h2], fun m hm => ?_⟩
        rcases List.mem_cons.1 hm with rfl | hm
        · exact ⟨hn1, hn2⟩
        · exact h3 m hm
    obtain ⟨l, h1, h2, h3⟩ := this
    exact ⟨l, _, by rw [h1, h2], slI_im l false, h3⟩
end Go.Proofs.Ytmbhpgknkemgeaa
