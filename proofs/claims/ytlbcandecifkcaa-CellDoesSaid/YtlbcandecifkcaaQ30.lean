/- Each operation of a memory tells what all that orders it tells. The plain law. -/
import Derived.Test.YtlbcandecifkcaaP30
set_option maxHeartbeats 4000000
namespace Go.Proofs.Ytlbcandecifkcaa
/-- The last time of a sort of access of a cell by a thread. -/
def mx (L : List Dn) (k : Int) (p u : Nat) (x : Int) : Prop :=
  (∀ i, i < L.length → (dn L i).k = k → (dn L i).t = u → (dn L i).a = p → (cnt L u (i + 1) : Int) ≤ x) ∧
  (x = 0 ∨ ∃ i, i < L.length ∧ (dn L i).k = k ∧ (dn L i).t = u ∧ (dn L i).a = p ∧ x = cnt L u (i + 1))
structure MRel (L : List Dn) (M : AM) (V : Nat → Nat → Int) : Prop where
  core : MCore L M V
  ops : M.ops = L.length
  ks : ∀ i, i < L.length → 0 ≤ (dn L i).k ∧ (dn L i).k ≤ 7
  at' : ∀ a : Nat, a < M.na → (lastW L 0 a = -1 ∧ M.av a = 0 ∧ M.ak a = none) ∨ ∃ i : Nat, lastW L 0 a = i ∧ M.av a = (dn L i).v ∧ ∃ f, M.ak a = some f ∧ ∀ u, f u = V i u
  lc : ∀ l : Nat, l < M.nl → (lastW L 6 l = -1 ∧ M.lo l = -1 ∧ M.lk l = none) ∨ (∃ i : Nat, lastW L 6 l = i ∧ (dn L i).k = 7 ∧ M.lo l = -1 ∧ ∃ f, M.lk l = some f ∧ ∀ u, f u = V i u) ∨ (∃ i : Nat, lastW L 6 l = i ∧ (dn L i).k = 6 ∧ M.lo l = (dn L i).t)
  pr : ∀ p : Nat, p < M.np → ∀ u : Nat, u < M.n → mx L 4 p u ((M.rw p).1 u) ∧ mx L 5 p u ((M.rw p).2 u)
theorem rel_new (n na np nl : Nat) : MRel [] (AM.new n na np nl) (fun _ _ => 0) where
  core := ⟨fun i h => by simp at h, fun i h => by simp at h, fun i j h => by simp at h, fun i h => by simp at h, fun i h => by simp at h, fun i j _ h => by simp at h, fun t _ => .inl ⟨fun _ => rfl, fun i h => by simp at h⟩⟩
  ops := rfl
  ks := fun i h => by simp at h
  at' := fun a _ => .inl ⟨rfl, rfl, rfl⟩
  lc := fun a _ => .inl ⟨rfl, rfl, rfl⟩
  pr := fun p _ u _ => ⟨⟨fun i h => by simp at h, .inl rfl⟩, ⟨fun i h => by simp at h, .inl rfl⟩⟩
theorem lastW_lt (L : List Dn) (k a : Int) : lastW L k a < L.length ∧ -1 ≤ lastW L k a := by
  rcases lastN_spec L k a L.length with ⟨h, _⟩ | ⟨j, h, h2, _⟩ <;> unfold lastW <;> omega
theorem lastN_kind (L : List Dn) {k k' : Int} (a : Int) (h1 : k ≤ 3 ↔ k' ≤ 3) (h2 : 6 ≤ k ↔ 6 ≤ k') : ∀ i, lastN L k a i = lastN L k' a i
  | 0 => rfl
  | i + 1 => by
    unfold lastN
    rw [lastN_kind L a h1 h2 i]
    have : hitB k a (dn L i) = hitB k' a (dn L i) := by
      unfold hitB
      rw [decide_eq_decide.2 h1, decide_eq_decide.2 h2]
    rw [this]
theorem lastW_03 (L : List Dn) {k : Int} (a : Int) (h : k ≤ 3) : lastW L k a = lastW L 0 a := lastN_kind L a (by omega) (by omega) _
theorem lastW_67 (L : List Dn) {k : Int} (a : Int) (h : 6 ≤ k) : lastW L k a = lastW L 6 a := lastN_kind L a (by omega) (by omega) _
theorem rel_value {L : List Dn} {M : AM} {V : Nat → Nat → Int} (h : MRel L M V) {a : Nat} (ha : a < M.na) : value L a = M.av a := by
  unfold value
  rcases h.at' a ha with ⟨h1, h2, h3⟩ | ⟨i, h1, h2, _⟩
  · rw [h1, h2]; rfl
  · rw [h1, h2, if_neg (by omega), Int.toNat_natCast]
theorem rel_owner {L : List Dn} {M : AM} {V : Nat → Nat → Int} (h : MRel L M V) {a : Nat} (ha : a < M.nl) : owner L a = M.lo a := by
  unfold owner
  rcases h.lc a ha with ⟨h1, h2, h3⟩ | ⟨i, h1, h2, h3, _⟩ | ⟨i, h1, h2, h3⟩
  · rw [h1, h2]; rfl
  · rw [h1, if_neg (by omega), Int.toNat_natCast, if_pos h2, h3]
  · rw [h1, if_neg (by omega), Int.toNat_natCast, if_neg (by omega), h3]
/-- What an operation makes of a memory. -/
def doM (M : AM) (k : Int) (t a : Nat) (o n : Int) : AM :=
  if k = 0 then M.load t a else if k = 1 then M.store t a n else if k = 2 then M.swap t a o n else if k = 3 then M.add t a (doD.wrapI (M.av a + n)) else
  if k = 4 then M.access t a false else if k = 5 then M.access t a true else if k = 6 then M.lock t a else M.unlock t a
def placesM (M : AM) (k : Int) : Nat := if k ≤ 3 then M.na else if k ≤ 5 then M.np else M.nl
theorem clk_tick (M : AM) (t s u : Nat) : (M.tick t).clk s u = if s = t then upd (M.clk t) t (M.clk t t + 1) u else M.clk s u := by
  simp only [AM.tick, upd]; split <;> rfl
theorem vnext_f (M : AM) (V : Nat → Nat → Int) (t : Nat) (w : Int) (u : Nat) : vnext M V t w false u = upd (M.clk t) t (M.clk t t + 1) u := by
  simp only [vnext]; simp
theorem clk_seen {M : AM} {V : Nat → Nat → Int} (t s u : Nat) (k : Option (Nat → Int)) (w : Int) (hk : (w < 0 ∧ k = none) ∨ ∃ i : Nat, w = i ∧ ∃ f, k = some f ∧ ∀ u, f u = V i u) :
    ((M.tick t).join t k).clk s u = if s = t then vnext M V t w true u else M.clk s u := by
  have hu : ((M.tick t).join t k).clk s u = if s = t then jn (upd (M.clk t) t (M.clk t t + 1)) k u else M.clk s u := by
    simp only [AM.join, AM.tick, upd]
    by_cases hs : s = t
    · subst hs; simp
    · simp [hs]
  rw [hu]
  split
  · rcases hk with ⟨h1, rfl⟩ | ⟨i, rfl, f, rfl, hf⟩
    · simp only [jn, vnext]
      rw [if_neg (by simp; omega)]
    · simp [jn, vnext, hf]
  · rfl
/-- What goes on from one operation to the next, but for what it wrote. -/
theorem rel_step {L : List Dn} {M M' : AM} {V : Nat → Nat → Int} (h : MRel L M V) (k : Int) (t a : Nat) (o n : Int) (hk : 0 ≤ k ∧ k ≤ 7) (ht : t < M.n) (hM : M' = doM M k t a o n) (hp : a < placesM M k) (hu : k = 7 → M.lo a = t) :
    MRel (L ++ [doD L k t a o n]) M' (upd V L.length (vnext M V t (lastW L k a) (decide (k = 0) || decide (k = 2) || decide (k = 3) || decide (k = 6) && (doD L k t a o n).is))) ∧
    (k = 0 → (doD L k t a o n).v = M.av a) ∧ (k = 2 → (doD L k t a o n).is = decide (M.av a = o)) ∧ (k = 3 → (doD L k t a o n).v = doD.wrapI (M.av a + n)) ∧ (k = 6 → (doD L k t a o n).is = decide (M.lo a = -1)) ∧
    M'.cl = M.cl ++ (if k = 4 ∨ k = 5 then hcl M.n L (doD L k t a o n) else []) := by
  have hval : a < M.na → value L a = M.av a := fun ha => rel_value h ha
  have hown : a < M.nl → owner L a = M.lo a := fun ha => rel_owner h ha
  have pa : k ≤ 3 → a < M.na := fun hk3 => by unfold placesM at hp; rwa [if_pos hk3] at hp
  have pp : 4 ≤ k → k ≤ 5 → a < M.np := fun h1 h2 => by unfold placesM at hp; rwa [if_neg (by omega), if_pos h2] at hp
  have pl : 6 ≤ k → a < M.nl := fun h1 => by unfold placesM at hp; rwa [if_neg (by omega), if_neg (by omega)] at hp
  -- its parts
  generalize hd : doD L k t a o n = d
  have d1 : d.k = k ∧ d.t = t ∧ d.a = a ∧ d.bf = behind L d.t (lastW L k a) (decide (k = 0) || decide (k = 2) || decide (k = 3) || decide (k = 6) && d.is) := by
    subst hd; exact ⟨rfl, rfl, rfl, rfl⟩
  obtain ⟨dk, dt, da, db⟩ := d1
  have t0 : k = 0 → d.v = M.av a := fun e => by subst hd; simp [doD, e, hval (pa (by omega))]
  have t1 : k = 1 → d.v = n := fun e => by subst hd; simp [doD, e]
  have t2 : k = 2 → d.is = decide (M.av a = o) ∧ (M.av a = o → d.v = n) := fun e => by
    subst hd; simp [doD, e, hval (pa (by omega))]
    intro h1 h2; exact absurd h1 h2
  have t3 : k = 3 → d.v = doD.wrapI (M.av a + n) := fun e => by subst hd; simp [doD, e, hval (pa (by omega))]
  have t6 : k = 6 → d.is = decide (M.lo a = -1) := fun e => by
    subst hd
    have h6 := hown (pl (by omega))
    simp [doD, e, h6]
    rcases h.lc a (pl (by omega)) with ⟨_, h2, _⟩ | ⟨i, _, _, h2, _⟩ | ⟨i, h1, _, h2⟩
    · omega
    · omega
    · have h3 := lastW_lt L 6 a
      have := (h.core.tr i (by omega)).1
      omega
  have tw : d.w = if k = 1 ∨ k = 3 ∨ k = 7 then true else if k = 2 then decide (M.av a = o) else if k = 6 then decide (M.lo a = -1) else false := by
    have : d.w = if k = 1 ∨ k = 3 ∨ k = 7 then true else d.is := by subst hd; rfl
    rw [this]
    split
    · rfl
    · by_cases h2 : k = 2
      · rw [if_pos h2]; exact (t2 h2).1
      · rw [if_neg h2]
        by_cases h6 : k = 6
        · rw [if_pos h6]; exact t6 h6
        · rw [if_neg h6]; subst hd; simp [doD, h2, h6]
  generalize hsees : (decide (k = 0) || decide (k = 2) || decide (k = 3) || decide (k = 6) && d.is) = sees at *
  -- sizes and clocks
  have sz : M'.n = M.n ∧ M'.na = M.na ∧ M'.np = M.np ∧ M'.nl = M.nl ∧ M'.ops = M.ops + 1 := by
    subst hM
    unfold doM AM.swap AM.lock
    (repeat' split) <;> exact ⟨rfl, rfl, rfl, rfl, rfl⟩
  obtain ⟨s1, s2, s3, s4, s5⟩ := sz
  have hat : k ≤ 3 → (lastW L k a < 0 ∧ M.ak a = none) ∨ ∃ i : Nat, lastW L k a = i ∧ ∃ f, M.ak a = some f ∧ ∀ u, f u = V i u := fun hk3 => by
    rw [lastW_03 L a hk3]
    rcases h.at' a (pa hk3) with ⟨h1, h2, h3⟩ | ⟨i, h1, h2, h3⟩
    · exact .inl ⟨by omega, h3⟩
    · exact .inr ⟨i, h1, h3⟩
  have hck : ∀ s u : Nat, M'.clk s u = if s = t then vnext M V t (lastW L k a) sees u else M.clk s u := by
    intro s u
    rcases (show k = 0 ∨ k = 1 ∨ k = 2 ∨ k = 3 ∨ k = 4 ∨ k = 5 ∨ k = 6 ∨ k = 7 by omega) with e | e | e | e | e | e | e | e
    · have hs : sees = true := by rw [← hsees]; simp [e]
      have : M' = M.load t a := by rw [hM]; simp [doM, e]
      rw [this, hs]; exact clk_seen t s u _ _ (hat (by omega))
    · have hs : sees = false := by rw [← hsees]; simp [e]
      have : M' = M.store t a n := by rw [hM]; simp [doM, e]
      rw [this, hs, vnext_f]; exact clk_tick M t s u
    · have hs : sees = true := by rw [← hsees]; simp [e]
      have : M' = M.swap t a o n := by rw [hM]; simp [doM, e]
      rw [this, hs]
      unfold AM.swap
      split <;> exact clk_seen t s u _ _ (hat (by omega))
    · have hs : sees = true := by rw [← hsees]; simp [e]
      have : M' = M.add t a (doD.wrapI (M.av a + n)) := by rw [hM]; simp [doM, e]
      rw [this, hs]; exact clk_seen t s u _ _ (hat (by omega))
    · have hs : sees = false := by rw [← hsees]; simp [e]
      have : M' = M.access t a false := by rw [hM]; simp [doM, e]
      rw [this, hs, vnext_f]; exact clk_tick M t s u
    · have hs : sees = false := by rw [← hsees]; simp [e]
      have : M' = M.access t a true := by rw [hM]; simp [doM, e]
      rw [this, hs, vnext_f]; exact clk_tick M t s u
    · have : M' = M.lock t a := by rw [hM]; simp [doM, e]
      rw [this]
      unfold AM.lock
      by_cases hl : M.lo a = -1
      · have hs : sees = true := by rw [← hsees, t6 e]; simp [e, hl]
        rw [if_pos hl, hs, e]
        refine clk_seen t s u _ _ ?_
        rcases h.lc a (pl (by omega)) with ⟨h1, h2, h3⟩ | ⟨i, h1, _, _, h3⟩ | ⟨i, h1, _, h2⟩
        · exact .inl ⟨by omega, h3⟩
        · exact .inr ⟨i, h1, h3⟩
        · have h3 := lastW_lt L 6 a
          have := (h.core.tr i (by omega)).1
          omega
      · have hs : sees = false := by rw [← hsees, t6 e]; simp [e, hl]
        rw [if_neg hl, hs, vnext_f]; exact clk_tick M t s u
    · have hs : sees = false := by rw [← hsees]; simp [e]
      have : M' = M.unlock t a := by rw [hM]; simp [doM, e]
      rw [this, hs, vnext_f]; exact clk_tick M t s u
  have htt : d.t.toNat = t := by omega
  have hcore : MCore (L ++ [d]) M' (upd V L.length (vnext M V t (lastW L k a) sees)) := by
    have := core_step h.core d (lastW L k a) sees (fun _ => (lastW_lt L k a).1) (by omega) (by omega) db s1 (fun s hs u => by rw [htt, hck s u]; split <;> rename_i e <;> simp only [e])
    rw [htt] at this; exact this
  have hlen : (L ++ [d]).length = L.length + 1 := by simp
  have hVo : ∀ i, i < L.length → upd V L.length (vnext M V t (lastW L k a) sees) i = V i := fun i hi => upd_ne _ _ (by omega)
  have hVn : upd V L.length (vnext M V t (lastW L k a) sees) L.length = vnext M V t (lastW L k a) sees := upd_same _ _ _
  have hct : ∀ u, M'.clk t u = vnext M V t (lastW L k a) sees u := fun u => by rw [hck, if_pos rfl]
  refine ⟨⟨hcore, by rw [s5, h.ops, hlen]; rfl, fun i hi => ?_, fun b hb => ?_, fun b hb => ?_, fun p hpp u huu => ?_⟩, t0, fun e => (t2 e).1, t3, t6, ?_⟩
  · by_cases hil : i < L.length
    · rw [dn_left hil]; exact h.ks i hil
    · obtain rfl : i = L.length := by omega
      rw [dn_last, dk]; exact hk
  -- the atoms
  · rw [s2] at hb
    rw [lastW_snoc]
    have hsame : ∀ (M'' : AM), M''.av b = M.av b → M''.ak b = M.ak b → (lastW L 0 b = -1 ∧ M''.av b = 0 ∧ M''.ak b = none) ∨ ∃ i : Nat, lastW L 0 b = i ∧ M''.av b = (dn (L ++ [d]) i).v ∧ ∃ f, M''.ak b = some f ∧ ∀ u, f u = upd V L.length (vnext M V t (lastW L k a) sees) i u := by
      intro M'' e1 e2
      rw [e1, e2]
      rcases h.at' b hb with h1 | ⟨i, h1, h2, h3⟩
      · exact .inl h1
      · have := lastW_lt L 0 b
        refine .inr ⟨i, h1, ?_, ?_⟩
        · rw [dn_left (by omega)]; exact h2
        · rw [hVo i (by omega)]; exact h3
    by_cases hhit : hitB 0 b d = true
    · rw [if_pos hhit]
      simp only [hitB, da, dk, Bool.and_eq_true, Bool.or_eq_true, decide_eq_true_eq] at hhit
      obtain ⟨⟨e1, e2⟩, e3⟩ := hhit
      obtain rfl : b = a := by omega
      have hk3 : k ≤ 3 := by omega
      refine .inr ⟨L.length, rfl, ?_, ?_⟩
      · rw [dn_last]
        rcases (show k = 0 ∨ k = 1 ∨ k = 2 ∨ k = 3 by omega) with e | e | e | e
        · rw [tw] at e3; simp [e] at e3
        · rw [t1 e, hM]; simp [doM, e, AM.store, AM.put, upd]
        · rw [tw] at e3; simp [e] at e3
          rw [(t2 e).2 e3, hM]; simp [doM, e, AM.swap, e3, AM.put, upd]
        · rw [t3 e, hM]; simp [doM, e, AM.add, AM.put, upd]
      · have : M'.ak b = some (M'.clk t) := by
          rcases (show k = 0 ∨ k = 1 ∨ k = 2 ∨ k = 3 by omega) with e | e | e | e
          · rw [tw] at e3; simp [e] at e3
          · rw [hM]; simp [doM, e, AM.store, AM.put, upd]
          · rw [tw] at e3; simp [e] at e3
            rw [hM]; simp [doM, e, AM.swap, e3, AM.put, upd]
          · rw [hM]; simp [doM, e, AM.add, AM.put, upd]
        refine ⟨_, this, fun u => ?_⟩
        rw [hVn]; exact hct u
    · rw [if_neg hhit]
      simp only [hitB, da, dk, Bool.and_eq_true, Bool.or_eq_true, decide_eq_true_eq] at hhit
      have key : M'.av b = M.av b ∧ M'.ak b = M.ak b := by
        by_cases hba : b = a
        · subst hba
          rcases (show k = 0 ∨ k = 1 ∨ k = 2 ∨ k = 3 ∨ k = 4 ∨ k = 5 ∨ k = 6 ∨ k = 7 by omega) with e | e | e | e | e | e | e | e
          · rw [hM]; simp [doM, e, AM.load, AM.join, AM.tick]
          · rw [tw] at hhit; simp [e] at hhit
          · rw [tw] at hhit; simp [e] at hhit
            rw [hM]; simp [doM, e, AM.swap, hhit, AM.load, AM.join, AM.tick]
          · rw [tw] at hhit; simp [e] at hhit
          · rw [hM]; simp [doM, e, AM.access, AM.tick]
          · rw [hM]; simp [doM, e, AM.access, AM.tick]
          · have : M' = M.lock t b := by rw [hM]; simp [doM, e]
            rw [this]; unfold AM.lock; split <;> exact ⟨rfl, rfl⟩
          · rw [hM]; simp [doM, e, AM.unlock, AM.tick]
        · rw [hM]
          unfold doM AM.swap AM.lock
          (repeat' split) <;> simp [AM.load, AM.store, AM.add, AM.put, AM.join, AM.tick, AM.access, AM.unlock, upd, hba]
      exact hsame M' key.1 key.2
  -- the locks
  · rw [s4] at hb
    rw [lastW_snoc]
    by_cases hhit : hitB 6 b d = true
    · rw [if_pos hhit]
      simp only [hitB, da, dk, Bool.and_eq_true, Bool.or_eq_true, decide_eq_true_eq] at hhit
      obtain ⟨⟨e1, e2⟩, e3⟩ := hhit
      obtain rfl : b = a := by omega
      rcases (show k = 6 ∨ k = 7 by omega) with e | e
      · rw [tw] at e3; simp [e] at e3
        refine .inr (.inr ⟨L.length, rfl, by rw [dn_last, dk, e], ?_⟩)
        rw [dn_last, dt, hM]; simp [doM, e, AM.lock, e3, upd]
      · refine .inr (.inl ⟨L.length, rfl, by rw [dn_last, dk, e], ?_, ?_⟩)
        · rw [hM]; simp [doM, e, AM.unlock, upd]
        · have : M'.lk b = some (M'.clk t) := by rw [hM]; simp [doM, e, AM.unlock, upd]
          refine ⟨_, this, fun u => ?_⟩
          rw [hVn]; exact hct u
    · rw [if_neg hhit]
      simp only [hitB, da, dk, Bool.and_eq_true, Bool.or_eq_true, decide_eq_true_eq] at hhit
      have key : M'.lo b = M.lo b ∧ M'.lk b = M.lk b := by
        by_cases hba : b = a
        · subst hba
          rcases (show k ≤ 3 ∨ k = 4 ∨ k = 5 ∨ k = 6 ∨ k = 7 by omega) with e | e | e | e | e
          · rw [hM]
            unfold doM AM.swap
            (repeat' split) <;> first | omega | simp [AM.load, AM.store, AM.add, AM.put, AM.join, AM.tick]
          · rw [hM]; simp [doM, e, AM.access, AM.tick]
          · rw [hM]; simp [doM, e, AM.access, AM.tick]
          · rw [tw] at hhit; simp [e] at hhit
            rw [hM]; simp [doM, e, AM.lock, hhit, AM.tick]
          · rw [tw] at hhit; simp [e] at hhit
        · rw [hM]
          unfold doM AM.swap AM.lock
          (repeat' split) <;> simp [AM.load, AM.store, AM.add, AM.put, AM.join, AM.tick, AM.access, AM.unlock, upd, hba]
      rw [key.1, key.2]
      rcases h.lc b hb with h1 | ⟨i, h1, h2, h3, h4⟩ | ⟨i, h1, h2, h3⟩
      · exact .inl h1
      · have := lastW_lt L 6 b
        refine .inr (.inl ⟨i, h1, by rw [dn_left (by omega)]; exact h2, h3, ?_⟩)
        rw [hVo i (by omega)]; exact h4
      · have := lastW_lt L 6 b
        refine .inr (.inr ⟨i, h1, by rw [dn_left (by omega)]; exact h2, ?_⟩)
        rw [dn_left (by omega)]; exact h3
  -- the cells
  · rw [s3] at hpp
    rw [s1] at huu
    obtain ⟨g1, g2⟩ := h.pr p hpp u huu
    have ext : ∀ (kk x : Int), mx L kk p u x → ¬ (d.k = kk ∧ d.t = u ∧ d.a = p) → mx (L ++ [d]) kk p u x := by
      intro kk x hm hn
      refine ⟨fun i hi q1 q2 q3 => ?_, ?_⟩
      · by_cases hil : i < L.length
        · rw [dn_left hil] at q1 q2 q3
          rw [cnt_left (by omega)]; exact hm.1 i hil q1 q2 q3
        · obtain rfl : i = L.length := by omega
          rw [dn_last] at q1 q2 q3
          exact absurd ⟨q1, q2, q3⟩ hn
      · rcases hm.2 with q | ⟨i, q1, q2, q3, q4, q5⟩
        · exact .inl q
        · exact .inr ⟨i, by omega, by rw [dn_left q1]; exact q2, by rw [dn_left q1]; exact q3, by rw [dn_left q1]; exact q4, by rw [cnt_left (by omega)]; exact q5⟩
    have nw : ∀ (kk : Int), d.k = kk → d.t = u → d.a = p → mx (L ++ [d]) kk p u (cnt (L ++ [d]) u (L.length + 1)) := by
      intro kk q1 q2 q3
      refine ⟨fun i hi _ _ _ => ?_, .inr ⟨L.length, by omega, by rw [dn_last]; exact q1, by rw [dn_last]; exact q2, by rw [dn_last]; exact q3, rfl⟩⟩
      have := cnt_mono (L ++ [d]) u (show i + 1 ≤ L.length + 1 by omega)
      omega
    have hme : M'.clk t t = cnt (L ++ [d]) t (L.length + 1) := by
      have := (core_ck hcore (by rw [s1]; exact ht)).1
      rw [hlen] at this; exact this
    by_cases hka : k = 4 ∨ k = 5
    · by_cases hpa : p = a
      · subst hpa
        have htk : (M.tick t).clk t t = M'.clk t t := by
          rcases hka with e | e <;> (rw [hM]; simp [doM, e, AM.access])
        have hrw : M'.rw p = if k = 5 then ((M.rw p).1, upd (M.rw p).2 t (M'.clk t t)) else (upd (M.rw p).1 t (M'.clk t t), (M.rw p).2) := by
          rw [← htk]
          rcases hka with e | e <;> (rw [hM]; simp [doM, e, AM.access, AM.rw, upd])
        rw [hrw]
        by_cases hut : u = t
        · subst hut
          rcases hka with e | e
          · rw [if_neg (by omega)]
            refine ⟨?_, ext 5 _ g2 (fun q => by omega)⟩
            show mx _ 4 p u (upd (M.rw p).1 u (M'.clk u u) u)
            rw [upd_same, hme]; exact nw 4 (by omega) dt da
          · rw [if_pos e]
            refine ⟨ext 4 _ g1 (fun q => by omega), ?_⟩
            show mx _ 5 p u (upd (M.rw p).2 u (M'.clk u u) u)
            rw [upd_same, hme]; exact nw 5 (by omega) dt da
        · have hnt : ¬ d.t = u := by omega
          split
          · exact ⟨ext 4 _ g1 (fun q => hnt q.2.1), by show mx _ 5 p u (upd (M.rw p).2 t (M'.clk t t) u); rw [upd_ne _ _ hut]; exact ext 5 _ g2 (fun q => hnt q.2.1)⟩
          · exact ⟨by show mx _ 4 p u (upd (M.rw p).1 t (M'.clk t t) u); rw [upd_ne _ _ hut]; exact ext 4 _ g1 (fun q => hnt q.2.1), ext 5 _ g2 (fun q => hnt q.2.1)⟩
      · have hrw : M'.rw p = M.rw p := by
          rcases hka with e | e <;> (rw [hM]; simp [doM, e, AM.access, AM.rw, upd, hpa])
        rw [hrw]
        exact ⟨ext 4 _ g1 (fun q => by omega), ext 5 _ g2 (fun q => by omega)⟩
    · have hrw : M'.rw p = M.rw p := by
        rw [hM]
        unfold doM AM.swap AM.lock
        (repeat' split) <;> first | omega | simp [AM.load, AM.store, AM.add, AM.put, AM.join, AM.tick, AM.unlock, AM.rw]
      rw [hrw]
      exact ⟨ext 4 _ g1 (fun q => by omega), ext 5 _ g2 (fun q => by omega)⟩
  -- the clashes
  · by_cases hka : k = 4 ∨ k = 5
    · rw [if_pos hka]
      have hcl' : M'.cl = M.cl ++ clashes M.n a t (M.rw a).1 (M.rw a).2 (M'.clk t) (decide (k = 5)) := by
        rcases hka with e | e <;> (rw [hM]; simp [doM, e, AM.access])
      rw [hcl']
      unfold clashes hcl
      have hs : sees = false := by rw [← hsees]; rcases hka with e | e <;> simp [e]
      have hf : ∀ u, u ∈ List.range M.n → clashB (M.rw a).1 (M.rw a).2 (M'.clk t) t (decide (k = 5)) u = hclB L d u := by
        intro u hu
        have hu := List.mem_range.1 hu
        obtain ⟨g1, g2⟩ := h.pr a (pp (by omega) (by omega)) u hu
        unfold clashB hclB
        rw [Bool.eq_iff_iff, any_range]
        simp only [Bool.and_eq_true, Bool.or_eq_true, decide_eq_true_eq, dt, da, dk, Bool.not_eq_true']
        have hdb : ∀ i, i < L.length → (dn L i).t = u → u ≠ t → (d.bf.getD i false = false ↔ M'.clk t u < cnt L u (i + 1)) := by
          intro i hi q1 q2
          have := hcore.bf L.length i (by omega) hi
          unfold bfAt at this
          rw [dn_last, dn_left hi, hVn, cnt_left (by omega), ← hct, q1, Int.toNat_natCast] at this
          rw [← Bool.not_eq_true, this]; omega
        have hck0 : 0 ≤ M'.clk t u := ((core_ck hcore (by rw [s1]; exact ht)).2.1 u).1
        constructor
        · rintro ⟨q1, q2⟩
          have q3 : ¬ (u : Int) = t := by omega
          rcases q2 with q2 | ⟨q4, q2⟩
          · rcases g2.2 with q5 | ⟨i, r1, r2, r3, r4, r5⟩
            · omega
            · exact ⟨i, r1, ⟨⟨⟨r3, q3⟩, r4⟩, .inl r2⟩, (hdb i r1 r3 q1).2 (by omega)⟩
          · rcases g1.2 with q5 | ⟨i, r1, r2, r3, r4, r5⟩
            · omega
            · exact ⟨i, r1, ⟨⟨⟨r3, q3⟩, r4⟩, .inr ⟨r2, q4⟩⟩, (hdb i r1 r3 q1).2 (by omega)⟩
        · rintro ⟨i, r1, ⟨⟨⟨r3, q3⟩, r4⟩, r5⟩, r6⟩
          have q1 : u ≠ t := by omega
          have r7 := (hdb i r1 r3 q1).1 r6
          refine ⟨q1, ?_⟩
          rcases r5 with r5 | ⟨r5, r8⟩
          · have := g2.1 i r1 r5 r3 r4
            exact .inl (by omega)
          · have := g1.1 i r1 r5 r3 r4
            exact .inr ⟨r8, by omega⟩
      rw [List.filter_congr hf, da, dt]
    · rw [if_neg hka, List.append_nil, hM]
      unfold doM AM.swap AM.lock
      (repeat' split) <;> first | omega | simp [AM.load, AM.store, AM.add, AM.put, AM.join, AM.tick, AM.unlock]
end Go.Proofs.Ytlbcandecifkcaa
