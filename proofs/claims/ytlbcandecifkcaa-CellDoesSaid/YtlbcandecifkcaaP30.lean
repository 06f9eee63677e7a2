/- Threads that share a memory: its clocks tell what all that orders them tells. The plain law. -/
import Derived.Test.YtlbcandecifkcaaAM
namespace Go.Proofs.Ytlbcandecifkcaa
/-- An operation that was done: its sort, thread, place, the two numbers; behind which ones it is ordered; whether it wrote; what it told. -/
structure Dn where
  k : Int
  t : Int
  a : Int
  o : Int
  n : Int
  bf : List Bool
  w : Bool
  v : Int
  is : Bool
def Dn.zero : Dn := ⟨0, 0, 0, 0, 0, [], false, 0, false⟩
def dn (L : List Dn) (i : Nat) : Dn := L.getD i Dn.zero
theorem dn_left {L : List Dn} {d : Dn} {i : Nat} (h : i < L.length) : dn (L ++ [d]) i = dn L i := by simp [dn, List.getElem?_append_left h]
theorem dn_last {L : List Dn} {d : Dn} : dn (L ++ [d]) L.length = d := by simp [dn]
def hitB (kind at' : Int) (d : Dn) : Bool := decide (d.a = at') && (decide (kind ≤ 3) && decide (d.k ≤ 3) || decide (6 ≤ kind) && decide (6 ≤ d.k)) && d.w
/-- The last of the first i that wrote there. -/
def lastN (L : List Dn) (kind at' : Int) : Nat → Int
  | 0 => -1
  | i + 1 => if hitB kind at' (dn L i) then (i : Int) else lastN L kind at' i
def lastW (L : List Dn) (kind at' : Int) : Int := lastN L kind at' L.length
theorem lastN_spec (L : List Dn) (kind at' : Int) : ∀ i, (lastN L kind at' i = -1 ∧ ∀ j, j < i → hitB kind at' (dn L j) = false) ∨ ∃ j : Nat, lastN L kind at' i = j ∧ j < i ∧ hitB kind at' (dn L j) = true
  | 0 => .inl ⟨rfl, fun j h => by omega⟩
  | i + 1 => by
    unfold lastN
    by_cases h : hitB kind at' (dn L i) = true
    · rw [if_pos h]; exact .inr ⟨i, rfl, by omega, h⟩
    · rw [if_neg h]
      rcases lastN_spec L kind at' i with ⟨h1, h2⟩ | ⟨j, h1, h2, h3⟩
      · refine .inl ⟨h1, fun j hj => ?_⟩
        by_cases hji : j = i
        · subst hji; simpa using h
        · exact h2 j (by omega)
      · exact .inr ⟨j, h1, by omega, h3⟩
theorem lastN_left {L : List Dn} {d : Dn} {kind at' : Int} : ∀ {i}, i ≤ L.length → lastN (L ++ [d]) kind at' i = lastN L kind at' i
  | 0, _ => rfl
  | i + 1, h => by
    unfold lastN
    rw [dn_left (by omega), lastN_left (by omega)]
theorem lastW_snoc (L : List Dn) (d : Dn) (kind at' : Int) : lastW (L ++ [d]) kind at' = if hitB kind at' d then (L.length : Int) else lastW L kind at' := by
  unfold lastW
  rw [List.length_append, List.length_singleton]
  show (if _ then _ else _) = _
  rw [dn_last, lastN_left (Nat.le_refl _)]
def value (L : List Dn) (a : Int) : Int := if lastW L 0 a < 0 then 0 else (dn L (lastW L 0 a).toNat).v
def owner (L : List Dn) (l : Int) : Int := if lastW L 6 l < 0 then -1 else if (dn L (lastW L 6 l).toNat).k = 7 then -1 else (dn L (lastW L 6 l).toNat).t
def bfAt (L : List Dn) (i j : Nat) : Bool := (dn L i).bf.getD j false
/-- Is j ordered behind by what thread t did, among the first m? -/
def bhT (L : List Dn) (t : Int) (m j : Nat) : Bool := decide (j < m) && decide ((dn L j).t = t) || (List.range m).any fun i => decide ((dn L i).t = t) && decide (j < i) && bfAt L i j
def bhW (L : List Dn) (w : Int) (j : Nat) : Bool := decide (0 ≤ w) && (decide ((j : Int) = w) || decide ((j : Int) < w) && bfAt L w.toNat j)
def behind (L : List Dn) (t w : Int) (sees : Bool) : List Bool := (List.range L.length).map fun j => bhT L t L.length j || sees && bhW L w j
/-- What an operation is, when it is done. -/
def doD (L : List Dn) (k t a o n : Int) : Dn :=
  let v0 : Int := value L a
  let own := owner L a
  let is : Bool := if k = 2 then decide (v0 = o) else if k = 6 then decide (own < 0) else false
  let w : Bool := if k = 1 ∨ k = 3 ∨ k = 7 then true else is
  let v : Int := if k = 0 then v0 else if k = 1 then n else if k = 2 then (if v0 = o then n else v0) else if k = 3 then wrapI (v0 + n) else 0
  ⟨k, t, a, o, n, behind L t (lastW L k a) (decide (k = 0) || decide (k = 2) || decide (k = 3) || decide (k = 6) && is), w, v, is⟩
where wrapI (x : Int) : Int := (x + 9223372036854775808) % 18446744073709551616 - 9223372036854775808
def hclB (L : List Dn) (d : Dn) (u : Nat) : Bool := (List.range L.length).any fun i => decide ((dn L i).t = u) && decide ((u : Int) ≠ d.t) && decide ((dn L i).a = d.a) && (decide ((dn L i).k = 5) || decide ((dn L i).k = 4) && decide (d.k = 5)) && !d.bf.getD i false
def hcl (N : Nat) (L : List Dn) (d : Dn) : List (Int × Int × Int) := ((List.range N).filter (hclB L d)).map fun u : Nat => (d.a, (u : Int), d.t)
/-- How many of the first i are of thread u. -/
def cnt (L : List Dn) (u : Nat) : Nat → Nat
  | 0 => 0
  | i + 1 => cnt L u i + if (dn L i).t = u then 1 else 0
theorem cnt_left {L : List Dn} {d : Dn} {u : Nat} : ∀ {i}, i ≤ L.length → cnt (L ++ [d]) u i = cnt L u i
  | 0, _ => rfl
  | i + 1, h => by unfold cnt; rw [dn_left (by omega), cnt_left (by omega)]
theorem cnt_mono (L : List Dn) (u : Nat) {i j : Nat} (h : i ≤ j) : cnt L u i ≤ cnt L u j := by
  induction j with
  | zero => obtain rfl : i = 0 := by omega
            exact Nat.le_refl _
  | succ j ih =>
    by_cases hij : i = j + 1
    · subst hij; exact Nat.le_refl _
    · have := ih (by omega)
      show _ ≤ cnt L u j + _
      omega
theorem cnt_lt (L : List Dn) (u : Nat) {i j : Nat} (h : i < j) (hi : (dn L i).t = u) : cnt L u i < cnt L u j := by
  have := cnt_mono L u (show i + 1 ≤ j from h)
  rw [cnt, if_pos hi] at this; omega
theorem cnt_le (L : List Dn) (u : Nat) : ∀ i, cnt L u i ≤ i
  | 0 => Nat.le_refl _
  | i + 1 => by have := cnt_le L u i; unfold cnt; split <;> omega
theorem cnt_none {L : List Dn} {u : Nat} : ∀ {i j}, i ≤ j → (∀ k, i ≤ k → k < j → (dn L k).t ≠ u) → cnt L u j = cnt L u i
  | i, 0, h, _ => by obtain rfl : i = 0 := by omega
                     rfl
  | i, j + 1, h, hk => by
    by_cases hij : i = j + 1
    · subst hij; rfl
    · rw [cnt, if_neg (hk j (by omega) (by omega)), cnt_none (by omega) (fun k h1 h2 => hk k h1 (by omega))]; omega
/-- Clocks and all that orders. V: what was known behind each operation. -/
structure MCore (L : List Dn) (M : AM) (V : Nat → Nat → Int) : Prop where
  tr : ∀ i, i < L.length → 0 ≤ (dn L i).t ∧ (dn L i).t < M.n
  bl : ∀ i, i < L.length → (dn L i).bf.length = i
  bf : ∀ i j, i < L.length → j < i → (bfAt L i j = true ↔ (cnt L (dn L j).t.toNat (j + 1) : Int) ≤ V i (dn L j).t.toNat)
  vb : ∀ i, i < L.length → ∀ u, 0 ≤ V i u ∧ V i u ≤ cnt L u (i + 1)
  vo : ∀ i, i < L.length → V i (dn L i).t.toNat = cnt L (dn L i).t.toNat (i + 1)
  vm : ∀ i j, i < j → j < L.length → (dn L i).t = (dn L j).t → ∀ u, V i u ≤ V j u
  ck : ∀ t : Nat, t < M.n → ((∀ u, M.clk t u = 0) ∧ ∀ i, i < L.length → (dn L i).t ≠ t) ∨ ∃ i, i < L.length ∧ (dn L i).t = t ∧ (∀ u, M.clk t u = V i u) ∧ ∀ j, i < j → j < L.length → (dn L j).t ≠ t
/-- What thread t knows is what it knew behind its last operation. -/
theorem core_ck {L : List Dn} {M : AM} {V : Nat → Nat → Int} (h : MCore L M V) {t : Nat} (ht : t < M.n) : M.clk t t = cnt L t L.length ∧ (∀ u, 0 ≤ M.clk t u ∧ M.clk t u ≤ cnt L u L.length) ∧ ∀ i, i < L.length → (dn L i).t = t → ∀ u, V i u ≤ M.clk t u := by
  rcases h.ck t ht with ⟨h1, h2⟩ | ⟨i, h1, h2, h3, h4⟩
  · refine ⟨?_, fun u => ?_, fun i hi he => absurd he (h2 i hi)⟩
    · rw [h1, cnt_none (Nat.zero_le _) (fun k _ hk => h2 k hk)]; rfl
    · rw [h1]; omega
  · have hv := h.vo i h1
    rw [h2, Int.toNat_natCast] at hv
    refine ⟨?_, fun u => ?_, fun j hj he u => ?_⟩
    · rw [h3, hv, cnt_none (show i + 1 ≤ L.length by omega) (fun k hk1 hk2 => h4 k (by omega) hk2)]
    · have h5 := h.vb i h1 u
      have := cnt_mono L u (show i + 1 ≤ L.length by omega)
      rw [h3]; omega
    · rw [h3]
      rcases Nat.lt_trichotomy i j with hij | hij | hij
      · exact absurd he (h4 j hij hj)
      · subst hij; exact Int.le_refl _
      · exact h.vm j i hij h1 (by rw [he, h2]) u
/-- What is known behind the next operation. -/
def vnext (M : AM) (V : Nat → Nat → Int) (t : Nat) (w : Int) (sees : Bool) (u : Nat) : Int :=
  let b := upd (M.clk t) t (M.clk t t + 1) u
  if sees = true ∧ 0 ≤ w then (if b < V w.toNat u then V w.toNat u else b) else b
theorem any_range {m : Nat} {p : Nat → Bool} : (List.range m).any p = true ↔ ∃ i, i < m ∧ p i = true := by
  simp [List.any_eq_true]
theorem core_step {L : List Dn} {M M' : AM} {V : Nat → Nat → Int} (h : MCore L M V) (d : Dn) (w : Int) (sees : Bool) (hw : sees = true → w < L.length)
    (ht0 : 0 ≤ d.t) (ht1 : d.t < M.n) (hb : d.bf = behind L d.t w sees) (hn : M'.n = M.n) (hc : ∀ t : Nat, t < M.n → ∀ u, M'.clk t u = if t = d.t.toNat then vnext M V t w sees u else M.clk t u) :
    MCore (L ++ [d]) M' (upd V L.length (vnext M V d.t.toNat w sees)) := by
  obtain ⟨t, ht⟩ : ∃ t : Nat, d.t = t := ⟨d.t.toNat, by omega⟩
  have htt : d.t.toNat = t := by omega
  rw [htt] at hc ⊢
  have ht2 : t < M.n := by omega
  obtain ⟨c1, c2, c3⟩ := core_ck h ht2
  have hlen : (L ++ [d]).length = L.length + 1 := by simp
  have hold : ∀ i, i < L.length → upd V L.length (vnext M V t w sees) i = V i := fun i hi => upd_ne _ _ (by omega)
  have hnew : upd V L.length (vnext M V t w sees) L.length = vnext M V t w sees := upd_same _ _ _
  -- the new vector
  have vv : ∀ u, 0 ≤ vnext M V t w sees u ∧ vnext M V t w sees u ≤ cnt (L ++ [d]) u (L.length + 1) ∧ upd (M.clk t) t (M.clk t t + 1) u ≤ vnext M V t w sees u := by
    intro u
    have hcn : cnt (L ++ [d]) u (L.length + 1) = cnt L u L.length + if d.t = u then 1 else 0 := by
      rw [cnt, cnt_left (Nat.le_refl _), dn_last]
    have hbase : 0 ≤ upd (M.clk t) t (M.clk t t + 1) u ∧ upd (M.clk t) t (M.clk t t + 1) u ≤ cnt (L ++ [d]) u (L.length + 1) := by
      have := c2 u
      rw [hcn]
      by_cases hu : u = t
      · subst hu; rw [upd_same, if_pos ht]; omega
      · rw [upd_ne _ _ hu, if_neg (by omega)]; omega
    simp only [vnext]
    split
    · rename_i hs
      have hwl := hw hs.1
      have h5 := h.vb w.toNat (by omega) u
      have := cnt_mono L u (show w.toNat + 1 ≤ L.length by omega)
      split
      · refine ⟨h5.1, ?_, by omega⟩; rw [hcn]; omega
      · exact ⟨hbase.1, hbase.2, Int.le_refl _⟩
    · exact ⟨hbase.1, hbase.2, Int.le_refl _⟩
  have vo : vnext M V t w sees t = cnt (L ++ [d]) t (L.length + 1) := by
    have h6 := vv t
    have hcn : cnt (L ++ [d]) t (L.length + 1) = cnt L t L.length + 1 := by
      rw [cnt, cnt_left (Nat.le_refl _), dn_last, if_pos ht]
    rw [upd_same] at h6
    omega
  refine ⟨fun i hi => ?_, fun i hi => ?_, fun i j hi hj => ?_, fun i hi u => ?_, fun i hi => ?_, fun i j hij hj he u => ?_, fun s hs => ?_⟩
  · rw [hn]
    by_cases hil : i < L.length
    · rw [dn_left hil]; exact h.tr i hil
    · obtain rfl : i = L.length := by omega
      rw [dn_last]; exact ⟨ht0, ht1⟩
  · by_cases hil : i < L.length
    · rw [dn_left hil]; exact h.bl i hil
    · obtain rfl : i = L.length := by omega
      rw [dn_last, hb]; simp [behind]
  · by_cases hil : i < L.length
    · have := h.bf i j hil hj
      unfold bfAt at this ⊢
      rw [dn_left hil, dn_left (by omega), hold i hil, cnt_left (by omega)]
      exact this
    · obtain rfl : i = L.length := by omega
      rw [hnew, dn_left hj, cnt_left (by omega)]
      unfold bfAt
      rw [dn_last, hb]
      have e : (behind L d.t w sees).getD j false = (bhT L d.t L.length j || sees && bhW L w j) := by
        simp [behind, List.getD_eq_getElem?_getD, hj]
      rw [e, Bool.or_eq_true]
      have hjt := h.tr j hj
      obtain ⟨u, hu⟩ : ∃ u : Nat, (dn L j).t = u := ⟨(dn L j).t.toNat, by omega⟩
      have huu : (dn L j).t.toNat = u := by omega
      rw [huu]
      have hcj := cnt_lt L u (show j < j + 1 by omega) hu
      -- by the thread
      have k1 : bhT L d.t L.length j = true ↔ (cnt L u (j + 1) : Int) ≤ upd (M.clk t) t (M.clk t t + 1) u := by
        unfold bhT
        rw [Bool.or_eq_true, any_range]
        by_cases hut : u = t
        · have : (cnt L u (j + 1) : Int) ≤ upd (M.clk t) t (M.clk t t + 1) u := by
            subst hut
            have := cnt_mono L u (show j + 1 ≤ L.length by omega)
            rw [upd_same]; omega
          simp only [this, iff_true]
          left; simp [hj, hu, ht, hut]
        · rw [upd_ne _ _ hut]
          have hne : ¬ (dn L j).t = d.t := by omega
          simp only [hj, hne, decide_true, decide_false, Bool.and_false, Bool.false_eq_true, false_or]
          constructor
          · rintro ⟨i, hi, hp⟩
            simp only [Bool.and_eq_true, decide_eq_true_eq] at hp
            obtain ⟨⟨p1, p2⟩, p3⟩ := hp
            have := (h.bf i j hi p2).1 p3
            rw [huu] at this
            have := c3 i hi (by omega) u
            omega
          · intro hle
            rcases h.ck t ht2 with ⟨q1, q2⟩ | ⟨i, q1, q2, q3, q4⟩
            · rw [q1] at hle; omega
            · rw [q3] at hle
              have hji : j < i := by
                rcases Nat.lt_trichotomy j i with hh | hh | hh
                · exact hh
                · subst hh; omega
                · exfalso
                  have h5 := h.vb i q1 u
                  have := cnt_mono L u (show i + 1 ≤ j by omega)
                  omega
              refine ⟨i, q1, ?_⟩
              simp only [Bool.and_eq_true, decide_eq_true_eq]
              refine ⟨⟨by omega, hji⟩, (h.bf i j q1 hji).2 (by rw [huu]; exact hle)⟩
      -- by what was written
      have k2 : bhW L w j = true → sees = true → (cnt L u (j + 1) : Int) ≤ V w.toNat u ∧ 0 ≤ w := by
        intro hp hs
        have hwl := hw hs
        simp only [bhW, Bool.and_eq_true, Bool.or_eq_true, decide_eq_true_eq] at hp
        obtain ⟨p1, p2⟩ := hp
        refine ⟨?_, p1⟩
        rcases p2 with p2 | ⟨p2, p3⟩
        · have hwj : w.toNat = j := by omega
          have h7 := h.vo j hj
          rw [huu] at h7
          rw [hwj, h7]; omega
        · have := (h.bf w.toNat j (by omega) (by omega)).1 p3
          rw [huu] at this; exact this
      have k3 : (cnt L u (j + 1) : Int) ≤ V w.toNat u → sees = true → 0 ≤ w → bhW L w j = true := by
        intro hp hs h0
        have hwl := hw hs
        simp only [bhW, Bool.and_eq_true, Bool.or_eq_true, decide_eq_true_eq]
        refine ⟨h0, ?_⟩
        rcases Nat.lt_trichotomy j w.toNat with hh | hh | hh
        · refine .inr ⟨by omega, (h.bf w.toNat j (by omega) hh).2 (by rw [huu]; exact hp)⟩
        · exact .inl (by omega)
        · exfalso
          have h5 := h.vb w.toNat (by omega) u
          have := cnt_mono L u (show w.toNat + 1 ≤ j by omega)
          omega
      rw [k1]
      have hvn : vnext M V t w sees u = if sees = true ∧ 0 ≤ w then (if upd (M.clk t) t (M.clk t t + 1) u < V w.toNat u then V w.toNat u else upd (M.clk t) t (M.clk t t + 1) u) else upd (M.clk t) t (M.clk t t + 1) u := rfl
      rw [hvn]
      constructor
      · rintro (hp | hp)
        · split
          · split <;> omega
          · exact hp
        · rw [Bool.and_eq_true] at hp
          obtain ⟨p1, p2⟩ := k2 hp.2 hp.1
          rw [if_pos ⟨hp.1, p2⟩]
          split <;> omega
      · intro hp
        split at hp
        · rename_i hs
          split at hp
          · right; rw [Bool.and_eq_true]; exact ⟨hs.1, k3 hp hs.1 hs.2⟩
          · exact .inl hp
        · exact .inl hp
  · by_cases hil : i < L.length
    · rw [hold i hil, cnt_left (by omega)]; exact h.vb i hil u
    · obtain rfl : i = L.length := by omega
      rw [hnew]; exact ⟨(vv u).1, (vv u).2.1⟩
  · by_cases hil : i < L.length
    · rw [hold i hil, dn_left hil, cnt_left (by omega)]; exact h.vo i hil
    · obtain rfl : i = L.length := by omega
      rw [hnew, dn_last, htt]; exact vo
  · by_cases hjl : j < L.length
    · rw [hold i (by omega), hold j hjl]
      rw [dn_left (by omega), dn_left hjl] at he
      exact h.vm i j hij hjl he u
    · obtain rfl : j = L.length := by omega
      rw [hold i hij, hnew]
      rw [dn_left hij, dn_last] at he
      have := c3 i hij (by omega) u
      have h6 := (vv u).2.2
      by_cases hut : u = t
      · subst hut; rw [upd_same] at h6; omega
      · rw [upd_ne _ _ hut] at h6; omega
  · rw [hn] at hs
    have hcs := hc s hs
    by_cases hst : s = t
    · subst hst
      right
      refine ⟨L.length, by omega, by rw [dn_last]; exact ht, fun u => ?_, fun j h1 h2 => by omega⟩
      rw [hcs, if_pos rfl, hnew]
    · have hcs' : ∀ u, M'.clk s u = M.clk s u := fun u => by rw [hcs, if_neg hst]
      rcases h.ck s hs with ⟨q1, q2⟩ | ⟨i, q1, q2, q3, q4⟩
      · left
        refine ⟨fun u => by rw [hcs', q1], fun i hi => ?_⟩
        by_cases hil : i < L.length
        · rw [dn_left hil]; exact q2 i hil
        · obtain rfl : i = L.length := by omega
          rw [dn_last]; omega
      · right
        refine ⟨i, by omega, by rw [dn_left q1]; exact q2, fun u => by rw [hcs', hold i q1, q3], fun j h1 h2 => ?_⟩
        by_cases hjl : j < L.length
        · rw [dn_left hjl]; exact q4 j h1 hjl
        · obtain rfl : j = L.length := by omega
          rw [dn_last]; omega
end Go.Proofs.Ytlbcandecifkcaa
