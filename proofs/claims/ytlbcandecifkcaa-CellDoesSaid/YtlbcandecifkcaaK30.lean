/- Lists of what was done, and of clashes, are copied and grow. -/
import Derived.Test.YtlbcandecifkcaaJ30
set_option linter.unusedSimpArgs false
set_option linter.unusedVariables false
set_option maxRecDepth 100000
set_option maxHeartbeats 16000000
namespace Go.Proofs.Ytlbcandecifkcaa
open Go
/-- A list of clashes is copied. -/
theorem c3_clone {h : List Row} {l : List (Int × Int × Int)} {S : LV} {P : Nat → Prop} (H : C3At h P l S) (hl : l.length < 1000000000) :
    ∃ A h', (newsE h 3 S).bind (appK 0 h 3 24 (.im [] 0 true)) = some (A, h') ∧ Ext h h' ∧ ((l = [] ∧ A = .im [] 0 true) ∨ (l ≠ [] ∧ A = .sl h.length 0 0 l.length 3 l.length ∧ rowOf h' h.length 0 = some (clCells l))) := by
  rcases H with ⟨rfl, rfl | rfl⟩ | ⟨h1, k, v, _, rfl, hr⟩
  · exact ⟨_, h, rfl, Ext.refl h, .inl ⟨rfl, rfl⟩⟩
  · exact ⟨_, h, rfl, Ext.refl h, .inl ⟨rfl, rfl⟩⟩
  · have h0 : 0 < l.length := List.length_pos_iff.2 h1
    have hc := clCells_len l
    have ha := clCells_atom l
    have htk : List.take (l.length * 3) (clCells l) = clCells l := List.take_of_length_le (by omega)
    refine ⟨_, h ++ [⟨0, clCells l⟩], ?_, Ext.app _ _, .inr ⟨h1, rfl, rowOf_app_eq⟩⟩
    simp only [newsE, hr, Nat.zero_add, List.drop_zero, htk, ha, and_true, true_and]
    rw [if_pos (by omega)]
    simp only [Option.bind_some, appK, appE]
    rw [if_neg (by omega), if_pos ⟨trivial, rfl, by omega, by omega⟩]
    simp
/-- What is new is added to a copy. -/
theorem c3_join {h : List Row} {n0 : Nat} {l m : List (Int × Int × Int)} {A S : LV} (HA : (l = [] ∧ A = .im [] 0 true) ∨ (l ≠ [] ∧ ∃ k, n0 ≤ k ∧ A = .sl k 0 0 l.length 3 l.length ∧ rowOf h k 0 = some (clCells l))) (hn : n0 ≤ h.length) {Q : Nat → Prop} (HS : C3At h Q m S) (hl : l.length < 100000000) (hm : m.length < 100000000) :
    ∃ S' h', (newsE h 3 S).bind (appK 0 h 3 24 A) = some (S', h') ∧ C3At h' (fun k => n0 ≤ k) (l ++ m) S' ∧ h.length ≤ h'.length ∧ ∀ k, k < n0 → h'[k]? = h[k]? := by
  have hnews : newsE h 3 S = some (clCells m, m.length) := by
    rcases HS with ⟨rfl, rfl | rfl⟩ | ⟨h1, k, v, _, rfl, hr⟩
    · rfl
    · rfl
    · have hc := clCells_len m
      have ha := clCells_atom m
      have htk : List.take (m.length * 3) (clCells m) = clCells m := List.take_of_length_le (by omega)
      simp only [newsE, hr, Nat.zero_add, List.drop_zero, htk, ha, and_true, true_and]
      rw [if_pos (by omega)]
  rw [hnews]
  simp only [Option.bind_some, appK]
  rcases HA with ⟨rfl, rfl⟩ | ⟨h1, k, hk, rfl, hr⟩
  · by_cases hm0 : m = []
    · subst hm0
      exact ⟨_, h, rfl, .inl ⟨rfl, .inr rfl⟩, Nat.le_refl _, fun _ _ => rfl⟩
    · have h0 : 0 < m.length := List.length_pos_iff.2 hm0
      refine ⟨.sl h.length 0 0 (0 + m.length) 3 (0 + m.length), h ++ [⟨0, [] ++ clCells m⟩], ?_, .inr ⟨by simpa using hm0, h.length, 0, hn, by simp, by simpa using rowOf_app_eq⟩, by simp, fun k hk => List.getElem?_append_left (by omega)⟩
      simp only [appE]
      rw [if_neg (by omega), if_pos ⟨trivial, rfl, by omega, by omega⟩]
  · have h0 : 0 < l.length := List.length_pos_iff.2 h1
    have hc := clCells_len l
    have hlt := rowOf_lt hr
    by_cases hm0 : m = []
    · subst hm0
      refine ⟨.sl k 0 0 (l.length + 0) 3 l.length, h.set k ⟨0, putR (clCells l) (0 + l.length * 3) []⟩, ?_, .inr ⟨by simpa using h1, k, 0, hk, by simp, ?_⟩, by simp, fun j hj => List.getElem?_set_ne (by omega)⟩
      · simp only [appE, hr, Nat.not_lt_zero, if_false, clCells, List.length_nil]
        rw [if_pos ⟨trivial, by omega, by omega⟩]
      · rw [rowOf_set_eq hlt, List.append_nil]
        simp [putR, List.take_of_length_le (show (clCells l).length ≤ l.length * 3 by omega), List.drop_of_length_le (show (clCells l).length ≤ l.length * 3 by omega)]
    · have hm1 : 0 < m.length := List.length_pos_iff.2 hm0
      refine ⟨.sl k (0 + 1) 0 (l.length + m.length) 3 (l.length + m.length), h.set k ⟨0 + 1, clCells l ++ clCells m⟩, ?_, .inr ⟨by simp [h1], k, 0 + 1, hk, by simp, ?_⟩, by simp, fun j hj => List.getElem?_set_ne (by omega)⟩
      · simp only [appE, hr, Nat.not_lt_zero, if_false]
        rw [if_neg (by omega), if_pos ⟨by omega, trivial, trivial, hc, by omega, by omega⟩]
      · rw [rowOf_set_eq hlt, clCells_app]
theorem dn_snoc_get {L : List Dn} {d : Dn} {i : Nat} (h : i < L.length + 1) : dn (L ++ [d]) i = if i < L.length then dn L i else d := by
  by_cases hi : i < L.length
  · rw [if_pos hi, dn_left hi]
  · obtain rfl : i = L.length := by omega
    rw [if_neg hi, dn_last]
/-- Copied, and one more: what the new list leads to. -/
theorem l_step {h0 h7 : List Row} {P : Nat → Prop} {L : List Dn} {S : LV} (HL : LAt h0 P L S) (x : Ext h0 h7) (hl : L.length < 60) (d : Dn) (kb : Nat) (hk : rowOf h7 kb 0 = some (bools d.bf)) (hd : d.bf.length = L.length) :
    ∃ B h8 LS' h9, (newsE h7 9 S).bind (appK 0 h7 9 88 (.im [] 0 true)) = some (B, h8) ∧ appE 0 h8 9 88 (dnC d kb L.length) 1 B = some (LS', h9) ∧ Ext h7 h9 ∧ (atomB LS' = true ∧ LS'.cells = [LS']) ∧
      LAt h9 (fun k => (P k ∧ k < h0.length) ∨ h7.length ≤ k ∨ k = kb) (L ++ [d]) LS' := by
  have hlen : (L ++ [d]).length = L.length + 1 := by simp
  cases HL with
  | nil h1 h2 =>
    subst h1; subst h2
    refine ⟨.im [] 0 true, h7, .sl h7.length 0 0 1 9 1, h7 ++ [⟨0, dnC d kb 0⟩], rfl, by simp [appE, dnC], Ext.app _ _, ⟨rfl, rfl⟩, ?_⟩
    refine .sl h7.length 0 (fun _ => kb) (by simp) (by simp) ?_ (fun i hi => ?_) (.inr (.inl (Nat.le_refl _))) fun i hi => .inr (.inr rfl)
    · rw [rowOf_app_eq]; rfl
    · obtain rfl : i = 0 := by simp at hi; exact hi
      exact ⟨(Ext.app _ _).row hk, hd⟩
  | sl k v b h1 h2 hr hb hp hq =>
    subst h2
    have h0' : 0 < L.length := List.length_pos_iff.2 h1
    have hc := dCells_len b L L.length
    have ha := dCells_atom b L L.length
    have htk : List.take (L.length * 9) (dCells b L L.length) = dCells b L L.length := List.take_of_length_le (by omega)
    have hr7 := x.row hr
    have r8 : rowOf (h7 ++ [⟨0, dCells b L L.length⟩]) h7.length 0 = some (dCells b L L.length) := rowOf_app_eq
    have x9 : Ext h7 ((h7 ++ [(⟨0, dCells b L L.length⟩ : Row)]).set h7.length ⟨0 + 1, dCells b L L.length ++ dnC d kb L.length⟩) := (Ext.app _ _).put (Nat.le_refl _) _
    refine ⟨.sl h7.length 0 0 L.length 9 L.length, h7 ++ [⟨0, dCells b L L.length⟩], .sl h7.length (0 + 1) 0 (L.length + 1) 9 (L.length + 1), _, ?_, ?_, x9, ⟨rfl, rfl⟩, ?_⟩
    · simp only [newsE, hr7, Nat.zero_add, List.drop_zero, htk, ha, and_true, true_and]
      rw [if_pos (by omega)]
      simp only [Option.bind_some, appK, appE]
      rw [if_neg (by omega), if_pos ⟨trivial, rfl, by omega, by omega⟩]
      simp
    · simp only [appE, r8, Nat.not_lt_zero, if_false]
      rw [if_neg (by omega), if_pos ⟨by omega, trivial, trivial, hc, by omega, by omega⟩]
    · refine .sl h7.length (0 + 1) (upd b L.length kb) (by simp) (by rw [hlen]) ?_ (fun i hi => ?_) (.inr (.inl (Nat.le_refl _))) fun i hi => ?_
      · rw [rowOf_set_eq (by simp), hlen]
        simp only [dCells]
        rw [dCells_congr (b := upd b L.length kb) (b' := b) (L := L ++ [d]) (L' := L) fun i hi => ⟨upd_ne _ _ (by omega), dn_left hi⟩, dn_last, upd_same]
        rfl
      · rw [hlen] at hi
        rw [dn_snoc_get hi]
        by_cases hil : i < L.length
        · rw [if_pos hil, upd_ne _ _ (by omega)]
          have := (hb i hil).1
          exact ⟨x9.row (x.row this), (hb i hil).2⟩
        · obtain rfl : i = L.length := by omega
          rw [if_neg hil, upd_same]
          exact ⟨x9.row hk, hd⟩
      · rw [hlen] at hi
        by_cases hil : i < L.length
        · rw [upd_ne _ _ (by omega)]
          exact .inl ⟨hq i hil, rowOf_lt (hb i hil).1⟩
        · obtain rfl : i = L.length := by omega
          rw [upd_same]; exact .inr (.inr rfl)
end Go.Proofs.Ytlbcandecifkcaa
