/- A memory's operations, as the evaluator answers: a plain cell is read, or written. -/
import Derived.Test.YtcmlnjkbdlakfaaMR
set_option linter.unusedSimpArgs false
set_option linter.unusedVariables false
set_option maxRecDepth 100000
set_option maxHeartbeats 16000000
namespace Go.Proofs.Ytcmlnjkbdlakfaa
open Go
theorem access_err (k : Nat) (h : List Row) (M : AM) (row : Tg → Nat) (H : MemAt h M row) (t a : Int) (wr : Bool) (hb : t < 0 ∨ (M.n : Int) ≤ t ∨ a < 0 ∨ (M.np : Int) ≤ a) :
    evF cm (k + 4) 34 [.p (row .mem) 0 0, .i t, .i a, .b wr] h 0 = some (.i 2, h) := by
  have e1 := fun k => nplains k h M row H
  have e2 := fun k => begin_err k h 0 M row H t a M.np hb
  rw [evX_fun (m := c34) rfl _ _ _ _ H.ne0 rfl]
  simp -implicitDefEqProofs only [c34, e1, e2, push_cast, Nat.reduceAdd, Nat.reduceMul, Nat.reduceSub, Nat.reduceLT, Nat.reduceLeDiff, Nat.reduceEqDiff, Nat.reducePow, Int.reduceToNat, Int.reduceLT, Int.reduceLE, Int.reduceNeg, Int.reduceEq, Int.reducePow, reduceIte, reduceCtorEq, Int.reduceMul, Int.reduceAdd, Int.reduceSub, Int.reduceMod, Int.reduceDiv, Int.reduceTDiv, Int.reduceTMod, iter_s]
/-- A cell that is accessed has its times. -/
def AM.seen (M : AM) (p : Nat) : AM := { M with pl := upd M.pl p (some (M.rw p)) }
theorem seen_rw (M : AM) (p q : Nat) : (M.seen p).rw q = M.rw q := by
  unfold AM.seen AM.rw
  by_cases h : q = p
  · subst h; simp [upd_same]
  · simp [upd_ne _ _ h]
theorem seen_wf {M : AM} (h : M.WF) (p : Nat) : (M.seen p).WF := ⟨h.ops, h.clk, h.ak, h.lk⟩
/-- What is written into a cell's times, at last. -/
def AM.stamp (M : AM) (t p : Nat) (wr : Bool) : AM := { M with pl := upd M.pl p (some (if wr then ((M.rw p).1, upd (M.rw p).2 t (M.clk t t)) else (upd (M.rw p).1 t (M.clk t t), (M.rw p).2))) }
theorem access_eq (M : AM) (t p : Nat) (wr : Bool) : M.access t p wr = (((M.tick t).seen p).tell (clashes M.n p t (M.rw p).1 (M.rw p).2 ((M.tick t).clk t) wr)).stamp t p wr := by
  have e : (((M.tick t).seen p).tell (clashes M.n p t (M.rw p).1 (M.rw p).2 ((M.tick t).clk t) wr)).rw p = M.rw p := seen_rw _ _ _
  unfold AM.stamp
  rw [e]
  simp only [AM.access, AM.tell, AM.seen]
  have : upd (upd (M.tick t).pl p (some ((M.tick t).rw p))) p = upd M.pl p := by
    funext x j; simp only [upd]; split <;> simp_all [AM.tick]
  rw [this]
  rfl
theorem stamp_wf {M : AM} (h : M.WF) (t p : Nat) (wr : Bool) : (M.stamp t p wr).WF := ⟨h.ops, h.clk, h.ak, h.lk⟩
theorem stamp_at {h : List Row} {M : AM} {row : Tg → Nat} (H : MemAt h M row) (t p : Nat) (hp : p < M.np) (hpl : M.pl p ≠ none) (wr : Bool) :
    MemAt (if wr then h.set (row (.wr p)) ⟨0, vec M.n (upd (M.rw p).2 t (M.clk t t))⟩ else h.set (row (.rd p)) ⟨0, vec M.n (upd (M.rw p).1 t (M.clk t t))⟩) (M.stamp t p wr) row ∧
    Frm (own M row) (own (M.stamp t p wr) row) h (if wr then h.set (row (.wr p)) ⟨0, vec M.n (upd (M.rw p).2 t (M.clk t t))⟩ else h.set (row (.rd p)) ⟨0, vec M.n (upd (M.rw p).1 t (M.clk t t))⟩) := by
  have hlive : ∀ τ, live (M.stamp t p wr) τ → live M τ := by
    intro τ hτ
    have hq : ∀ q, (M.stamp t p wr).pl q ≠ none → M.pl q ≠ none := by
      intro q hq
      by_cases hqp : q = p
      · subst hqp; exact hpl
      · simp only [AM.stamp, upd_ne _ _ hqp] at hq; exact hq
    cases τ with
    | rd q => exact ⟨hτ.1, hq q hτ.2⟩
    | wr q => exact ⟨hτ.1, hq q hτ.2⟩
    | _ => exact hτ
  have hs : ∀ k, own (M.stamp t p wr) row k → own M row k := fun k ⟨τ, h1, h2⟩ => ⟨τ, hlive τ h1, h2⟩
  have hkn : ∀ (q j : Nat), kn M.n j ((M.stamp t p wr).pl q) = kn M.n j (M.pl q) := by
    intro q j
    by_cases hqp : q = p
    · subst hqp
      cases hh : M.pl q with
      | none => exact absurd hh hpl
      | some x => simp [AM.stamp, upd_same, kn]
    · simp [AM.stamp, upd_ne _ _ hqp]
  have hrwn : ∀ q, q ≠ p → (M.stamp t p wr).rw q = M.rw q := fun q hq => by simp [AM.rw, AM.stamp, upd_ne _ _ hq]
  have hrwp : (M.stamp t p wr).rw p = if wr then ((M.rw p).1, upd (M.rw p).2 t (M.clk t t)) else (upd (M.rw p).1 t (M.clk t t), (M.rw p).2) := by simp [AM.rw, AM.stamp, upd_same]
  cases wr with
  | true =>
    refine ⟨⟨(H.hat.put (.wr p) ⟨hp, hpl⟩ _).cast fun τ hτ => ⟨hlive τ hτ, rfl, ?_⟩, stamp_wf H.wf t p _, H.n⟩, Frm.put ⟨.wr p, ⟨hp, hpl⟩, rfl⟩ hs _⟩
    cases τ with
    | wr q =>
      by_cases hq : q = p
      · subst hq; rw [setC_eq]; simp only [cont, hrwp]; rfl
      · rw [setC_ne _ _ (by simpa using hq)]; simp only [cont, hrwn q hq]; rfl
    | rd q =>
      rw [setC_ne _ _ (by simp)]
      by_cases hq : q = p
      · subst hq; simp only [cont, hrwp]; rfl
      · simp only [cont, hrwn q hq]; rfl
    | plains =>
      rw [setC_ne _ _ (by simp)]
      exact congrArg (Row.mk 0) (prs_congr fun i hi => ⟨hkn i _, hkn i _⟩)
    | _ => rfl
  | false =>
    refine ⟨⟨(H.hat.put (.rd p) ⟨hp, hpl⟩ _).cast fun τ hτ => ⟨hlive τ hτ, rfl, ?_⟩, stamp_wf H.wf t p _, H.n⟩, Frm.put ⟨.rd p, ⟨hp, hpl⟩, rfl⟩ hs _⟩
    cases τ with
    | rd q =>
      by_cases hq : q = p
      · subst hq; rw [setC_eq]; simp only [cont, hrwp]; rfl
      · rw [setC_ne _ _ (by simpa using hq)]; simp only [cont, hrwn q hq]; rfl
    | wr q =>
      rw [setC_ne _ _ (by simp)]
      by_cases hq : q = p
      · subst hq; simp only [cont, hrwp]; rfl
      · simp only [cont, hrwn q hq]; rfl
    | plains =>
      rw [setC_ne _ _ (by simp)]
      exact congrArg (Row.mk 0) (prs_congr fun i hi => ⟨hkn i _, hkn i _⟩)
    | _ => rfl
/-- A cell's times are made. -/
theorem seen_new {h : List Row} {M : AM} {row : Tg → Nat} (H : MemAt h M row) (p : Nat) (hp : p < M.np) (hpl : M.pl p = none) :
    ∃ row', (∀ τ, τ ≠ .rd p → τ ≠ .wr p → row' τ = row τ) ∧ row' (.rd p) = h.length ∧ row' (.wr p) = h.length + 1 ∧
      MemAt ((h.set (row .plains) ⟨0, prs M.np (upd (fun q => kn M.n (row (.rd q)) (M.pl q)) p (.sl h.length 0 0 M.n 1 M.n)) (upd (fun q => kn M.n (row (.wr q)) (M.pl q)) p (.sl (h.length + 1) 0 0 M.n 1 M.n))⟩) ++ [⟨0, vec M.n fun _ => 0⟩, ⟨0, vec M.n fun _ => 0⟩]) (M.seen p) row' ∧
      Frm (own M row) (own (M.seen p) row') h ((h.set (row .plains) ⟨0, prs M.np (upd (fun q => kn M.n (row (.rd q)) (M.pl q)) p (.sl h.length 0 0 M.n 1 M.n)) (upd (fun q => kn M.n (row (.wr q)) (M.pl q)) p (.sl (h.length + 1) 0 0 M.n 1 M.n))⟩) ++ [⟨0, vec M.n fun _ => 0⟩, ⟨0, vec M.n fun _ => 0⟩]) := by
  generalize hX : (⟨0, prs M.np (upd (fun q => kn M.n (row (.rd q)) (M.pl q)) p (.sl h.length 0 0 M.n 1 M.n)) (upd (fun q => kn M.n (row (.wr q)) (M.pl q)) p (.sl (h.length + 1) 0 0 M.n 1 M.n))⟩ : Row) = X
  have hl : (h.set (row .plains) X).length = h.length := List.length_set ..
  have hl2 : ((h.set (row .plains) X) ++ [(⟨0, vec M.n fun _ => 0⟩ : Row)]).length = h.length + 1 := by simp
  have hlive : ∀ τ, live (M.seen p) τ → τ = .rd p ∨ τ = .wr p ∨ live M τ := by
    intro τ hτ
    have hq : ∀ q, q ≠ p → (M.seen p).pl q ≠ none → M.pl q ≠ none := by
      intro q hqp hq
      simp only [AM.seen, upd_ne _ _ hqp] at hq; exact hq
    cases τ with
    | rd q =>
      by_cases hqp : q = p
      · subst hqp; exact .inl rfl
      · exact .inr (.inr ⟨hτ.1, hq q hqp hτ.2⟩)
    | wr q =>
      by_cases hqp : q = p
      · subst hqp; exact .inr (.inl rfl)
      · exact .inr (.inr ⟨hτ.1, hq q hqp hτ.2⟩)
    | _ => exact .inr (.inr hτ)
  have H1 := H.hat.put .plains trivial X
  have H2 := H1.push (.rd p) ⟨0, vec M.n fun _ => 0⟩
  have H3 := H2.push (.wr p) ⟨0, vec M.n fun _ => 0⟩
  rw [hl2, hl, List.append_assoc] at H3
  refine ⟨setC (setC row (.rd p) h.length) (.wr p) (h.length + 1), fun τ h1 h2 => by rw [setC_ne _ _ h2, setC_ne _ _ h1], by rw [setC_ne _ _ (by simp), setC_eq], by rw [setC_eq], ⟨H3.cast (live' := live (M.seen p)) (row' := setC (setC row (.rd p) h.length) (.wr p) (h.length + 1)) fun τ hτ => ⟨?_, rfl, ?_⟩, seen_wf H.wf p, H.n⟩, ?_⟩
  · rcases hlive τ hτ with h1 | h1 | h1
    · exact .inr (.inl h1)
    · exact .inl h1
    · exact .inr (.inr h1)
  · have hrw : ∀ q, M.pl q = none → M.rw q = (fun _ => 0, fun _ => 0) := fun q hq => by simp [AM.rw, hq]
    cases τ with
    | rd q =>
      by_cases hqp : q = p
      · subst hqp
        rw [setC_ne _ _ (by simp), setC_eq]; simp only [cont, seen_rw, hrw q hpl]; rfl
      · rw [setC_ne _ _ (by simp), setC_ne _ _ (by simpa using hqp), setC_ne _ _ (by simp)]; simp only [cont, seen_rw]; rfl
    | wr q =>
      by_cases hqp : q = p
      · subst hqp
        rw [setC_eq]; simp only [cont, seen_rw, hrw q hpl]; rfl
      · rw [setC_ne _ _ (by simpa using hqp), setC_ne _ _ (by simp), setC_ne _ _ (by simp)]; simp only [cont, seen_rw]; rfl
    | plains =>
      rw [setC_ne _ _ (by simp), setC_ne _ _ (by simp), setC_eq, ← hX]
      refine congrArg (Row.mk 0) (prs_congr fun i hi => ?_)
      by_cases hip : i = p
      · subst hip; simp [AM.seen, upd_same, setC, kn, vs]
      · simp [AM.seen, upd_ne _ _ hip, setC, hip]
    | _ => rfl
  · refine (Frm.put (own' := own M row) ⟨.plains, trivial, rfl⟩ (fun _ h => h) _).trans (Frm.push _ fun k hk => ?_)
    obtain ⟨τ, h1, rfl⟩ := hk
    rw [hl]
    by_cases h2 : τ = .wr p
    · subst h2; rw [setC_eq]; exact .inr (by omega)
    · rw [setC_ne _ _ h2]
      by_cases h3 : τ = .rd p
      · subst h3; rw [setC_eq]; exact .inr (by omega)
      · rw [setC_ne _ _ h3]
        rcases hlive τ h1 with h | h | h
        · exact absurd h h3
        · exact absurd h h2
        · exact .inl ⟨τ, h, rfl⟩
theorem seen_old {h : List Row} {M : AM} {row : Tg → Nat} (H : MemAt h M row) (p : Nat) (hpl : M.pl p ≠ none) : M.seen p = M := by
  unfold AM.seen
  have : upd M.pl p (some (M.rw p)) = M.pl := by
    funext q
    by_cases hq : q = p
    · subst hq; rw [upd_same]
      cases hh : M.pl q with
      | none => exact absurd hh hpl
      | some x => simp [AM.rw, hh]
    · rw [upd_ne _ _ hq]
  rw [this]
theorem sa0 (M : AM) (p t : Nat) (r w k : Nat → Int) (wr : Bool) : M.tell (clashes 0 p t r w k wr) = M := tell_nil M
theorem app2_0 {h : List Row} {a b x : Row} : (h ++ [a, b]).set h.length x = h ++ [x, b] := by
  rw [List.set_append_right _ _ (Nat.le_refl _), Nat.sub_self]; rfl
theorem app2_1 {h : List Row} {a b x : Row} : (h ++ [a, b]).set (h.length + 1) x = h ++ [a, x] := by
  rw [List.set_append_right _ _ (by omega), show h.length + 1 - h.length = 1 by omega]; rfl
/-- The rest of an access, behind its times' being there. -/
theorem access_loop (k : Nat) (h : List Row) (M : AM) (row : Tg → Nat) (H : MemAt h M row) (t p : Nat) (wr : Bool) (ht : t < M.n) (hp : p < M.np) (hpl : M.pl p = some (M.rw p)) (hcl : M.cl.length < 900000000) :
    ∀ s I, iter (evCode (evF cm (k + 109)) (k + 109) 0 c34b0) (cleanN fgA) (k + 109) s = I → SA h M row t p wr 0 s → ∃ s', I = some (.exit 0, s') ∧ SA h M row t p wr M.n s' := by
  intro s I hI hs
  have hn := H.n
  obtain ⟨s', h1, h2⟩ := iter_count (fun i s hi hs => access_round (k + 109) h M row t p wr ht hp hpl H.n.2 hcl i s hi hs) (fun s hs => access_last (k + 109) h M row t p wr s hs) M.n 0 s (k + 109) (by omega) (by omega) hs
  exact ⟨s', hI.symm.trans h1, h2⟩
theorem access_ok (k : Nat) (h : List Row) (M : AM) (row : Tg → Nat) (H : MemAt h M row) (t p : Nat) (wr : Bool) (ht : t < M.n) (hp : p < M.np) (hops : M.ops < 1000000000) (hcl : M.cl.length < 900000000) :
    ∃ h' row', evF cm (k + 110) 34 [.p (row .mem) 0 0, .i t, .i p, .b wr] h 0 = some (.i 0, h') ∧ MemAt h' (M.access t p wr) row' ∧ row' .mem = row .mem ∧ Frm (own M row) (own (M.access t p wr) row') h h' := by
  have e1 := fun k => nplains k h M row H
  obtain ⟨h1, e2, H1, F1⟩ := begin_ok (k + 108) h M row H t p M.np ht hp hops
  have g1 : (t : Int) < (M.n : Int) := by omega
  have g2 : (0 : Int) ≤ (t : Int) := by omega
  have g3 : (p : Int) < (M.np : Int) := by omega
  have g4 : (0 : Int) ≤ (p : Int) := by omega
  have cg := fun row => clks_get (M := M) (row := row) ht
  have m1 := H1.rmem
  have m2 := H1.rclks
  have m3 := H1.rplains
  simp only [AM.tick] at m1 m2 m3
  have vg := fun f => vec_get (n := M.n) (f := f) (i := t) ht
  have vp := fun f x => vput (n := M.n) (f := f) (u := t) (x := x) ht
  have vl : ∀ f, t + 1 ≤ (vec M.n f).length := fun f => by rw [vec_length]; omega
  -- the last step
  have fin : ∀ (h2 : List Row) (row2 : Tg → Nat), MemAt h2 ((M.tick t).seen p) row2 → row2 .mem = row .mem → Frm (own M row) (own ((M.tick t).seen p) row2) h h2 → ∀ s', SA h2 ((M.tick t).seen p) row2 t p wr M.n s' →
      ∃ T h3 row3, s' = (T, h3) ∧ T.length = 139 ∧ getT T 0 = .p (row3 .mem) 0 0 ∧ getT T 1 = .i t ∧ getT T 3 = .b wr ∧ getT T 10 = .p (row3 .plains) 0 (p * 2) ∧ row3 .mem = row .mem ∧
        rowOf h3 (row3 .mem) 0 = some [.sl (row3 .clks) (M.n - 1) 0 M.n 1 M.n, .sl (row3 .atoms) 0 0 M.na 2 M.na, .sl (row3 .plains) 0 0 M.np 2 M.np, .sl (row3 .locks) 0 0 M.nl 2 M.nl, outG 3 (row3 .cls) (((M.tick t).seen p).tell (clashes M.n p t (M.rw p).1 (M.rw p).2 ((M.tick t).clk t) wr)).cl.length, .i (M.ops + 1)] ∧
        rowOf h3 (row3 .clks) (M.n - 1) = some ((List.range M.n).map fun t => vs (row3 (.clk t)) M.n) ∧
        rowOf h3 (row3 (.clk t)) 0 = some (vec M.n ((M.tick t).clk t)) ∧
        rowOf h3 (row3 (.rd p)) 0 = some (vec M.n (M.rw p).1) ∧ rowOf h3 (row3 (.wr p)) 0 = some (vec M.n (M.rw p).2) ∧
        (∃ f g, rowOf h3 (row3 .plains) 0 = some (prs M.np f g) ∧ f p = .sl (row3 (.rd p)) 0 0 M.n 1 M.n ∧ g p = .sl (row3 (.wr p)) 0 0 M.n 1 M.n) ∧
        MemAt (if wr then h3.set (row3 (.wr p)) ⟨0, vec M.n (upd (M.rw p).2 t ((M.tick t).clk t t))⟩ else h3.set (row3 (.rd p)) ⟨0, vec M.n (upd (M.rw p).1 t ((M.tick t).clk t t))⟩) (M.access t p wr) row3 ∧
        Frm (own M row) (own (M.access t p wr) row3) h (if wr then h3.set (row3 (.wr p)) ⟨0, vec M.n (upd (M.rw p).2 t ((M.tick t).clk t t))⟩ else h3.set (row3 (.rd p)) ⟨0, vec M.n (upd (M.rw p).1 t ((M.tick t).clk t t))⟩) := by
    intro h2 row2 H2 hm2 F2 s' hs'
    obtain ⟨T, h3, row3, rfl, H3, hrow, F3, hT, t0, t1, t2, t3, t10, t57, t58, t59⟩ := hs'
    have hrw : ((M.tick t).seen p).rw p = M.rw p := seen_rw _ _ _
    have hk : ((M.tick t).seen p).clk t = (M.tick t).clk t := rfl
    rw [hrw, hk] at H3 F3
    have hnn : (((M.tick t).seen p).tell (clashes M.n p t (M.rw p).1 (M.rw p).2 ((M.tick t).clk t) wr)).pl p = some (M.rw p) := upd_same _ _ _
    have hne : (((M.tick t).seen p).tell (clashes M.n p t (M.rw p).1 (M.rw p).2 ((M.tick t).clk t) wr)).pl p ≠ none := by rw [hnn]; simp
    have hrw3 : (((M.tick t).seen p).tell (clashes M.n p t (M.rw p).1 (M.rw p).2 ((M.tick t).clk t) wr)).rw p = M.rw p := hrw
    obtain ⟨S1, S2⟩ := stamp_at H3 t p hp hne wr
    rw [hrw3] at S1 S2
    have e := access_eq M t p wr
    refine ⟨T, h3, row3, rfl, hT, ?_, t1, t3, ?_, ?_, H3.rmem, H3.rclks, H3.rclk ht, ?_, ?_, ⟨_, _, H3.rplains, ?_, ?_⟩, ?_, ?_⟩
    · rw [hrow _ (by simp)]; exact t0
    · rw [hrow _ (by simp)]; exact t10
    · rw [hrow _ (by simp)]; exact hm2
    · have := H3.rrd (p := p) hp hne
      rw [hrw3] at this; exact this
    · have := H3.rwr (p := p) hp hne
      rw [hrw3] at this; exact this
    · rw [hnn]; rfl
    · rw [hnn]; rfl
    · rw [e]; exact S1
    · rw [e]; exact (F2.trans F3).trans S2
  have loop := fun (h2 : List Row) (row2 : Tg → Nat) (H2 : MemAt h2 ((M.tick t).seen p) row2) => access_loop k h2 ((M.tick t).seen p) row2 H2 t p wr ht hp (by rw [seen_rw]; exact upd_same _ _ _) hcl
  rw [evX_fun (m := c34) rfl _ _ _ _ H.ne0 rfl]
  by_cases hpl : M.pl p = none
  · obtain ⟨row2, q1, q2, q3, H2, F2⟩ := seen_new H1 p hp hpl
    have F2' := F1.trans F2
    have hm2 : row2 .mem = row .mem := q1 _ (by simp) (by simp)
    have lt1 := H1.hat.lt (τ := .plains) trivial
    have lt2 := H1.hat.lt (τ := .mem) trivial
    have lt3 := H1.hat.lt (τ := .clks) trivial
    have lt4 := H1.hat.lt (τ := .clk t) ht
    have n1 : ¬ row .plains = h1.length + 1 := by omega
    have n2 : ¬ row .plains = h1.length := by omega
    have n3 : row .plains ≠ row .mem := H1.hat.ne (τ := .plains) (τ' := .mem) trivial trivial (by simp)
    have n4 : row .plains ≠ row .clks := H1.hat.ne (τ := .plains) (τ' := .clks) trivial trivial (by simp)
    have n5 : row .plains ≠ row (.clk t) := H1.hat.ne (τ := .plains) (τ' := .clk t) trivial ht (by simp)
    have hlen : (h1.set (row .plains) ⟨0, prs M.np (upd (fun q => kn M.n (row (.rd q)) (M.pl q)) p (.sl h1.length 0 0 M.n 1 M.n)) fun q => kn M.n (row (.wr q)) (M.pl q)⟩).length = h1.length := List.length_set ..
    have p1 : (prs M.np (fun p => kn M.n (row (.rd p)) (M.pl p)) (fun p => kn M.n (row (.wr p)) (M.pl p)))[p * 2]? = some .nils := by rw [prs_fst hp, hpl, kn_none]
    have p2 : ∀ f g, p * 2 + 1 ≤ (prs M.np f g).length := fun f g => by rw [prs_length]; omega
    have p2' : ∀ f g, p * 2 + 1 + 1 ≤ (prs M.np f g).length := fun f g => by rw [prs_length]; omega
    have p3 := fun f g x => prs_put1 (n := M.np) (f := f) (g := g) (x := x) hp
    have p4 := fun f g x => prs_put2 (n := M.np) (f := f) (g := g) (x := x) hp
    have ra : ∀ x y (v : Nat), rowOf (h1 ++ [x, y]) (row .plains) v = rowOf h1 (row .plains) v := fun x y v => rowOf_app_lt lt1
    have rb : ∀ x y z, (h1 ++ [x, y]).set (row .plains) z = h1.set (row .plains) z ++ [x, y] := fun x y z => set_app_lt lt1
    have rc : ∀ x y z w, (h1.set (row .plains) w ++ [x, y]).set (row .plains) z = h1.set (row .plains) z ++ [x, y] := fun x y z w => by rw [set_app_lt (by rw [List.length_set]; exact lt1), List.set_set]
    have rd : ∀ x y cs, rowOf (h1.set (row .plains) ⟨0, cs⟩ ++ [x, y]) (row .plains) 0 = some cs := fun x y cs => by rw [rowOf_app_lt (by rw [List.length_set]; exact lt1), rowOf_set_eq lt1]
    have re : ∀ x y z, rowOf (h1.set (row .plains) z ++ [x, y]) (row .mem) 0 = rowOf h1 (row .mem) 0 := fun x y z => by rw [rowOf_app_lt (by rw [List.length_set]; exact lt2), rowOf_set_ne n3]
    have rf : ∀ x y z, rowOf (h1.set (row .plains) z ++ [x, y]) (row .clks) (M.n - 1) = rowOf h1 (row .clks) (M.n - 1) := fun x y z => by rw [rowOf_app_lt (by rw [List.length_set]; exact lt3), rowOf_set_ne n4]
    have hz := repC_vec 0 M.n
    have nn : ((M.n : Int) * 8 ≤ 140737488355328) := by have := H.n; omega
    have nn1 : M.n ≤ 9223372036854775807 := by have := H.n; omega
    have nn2 : M.n * 8 ≤ 140737488355328 := by have := H.n; omega
    have nn3 : (M.n : Int) ≤ 9223372036854775807 := by omega
    have nn4 : (0 : Int) ≤ (M.n : Int) := by omega
    simp -implicitDefEqProofs only [c34, e1, e2, g1, g2, g3, g4, cg, m1, m2, m3, p1, p2, p2', p3, p4, ra, rb, rc, rd, re, rf, hz, nn1, nn2, nn3, nn4, n1, n2, app2_0, app2_1, push_cast, Nat.reduceAdd, Nat.reduceMul, Nat.reduceSub, Nat.reduceLT, Nat.reduceLeDiff, Nat.reduceEqDiff, Nat.reducePow, Int.reduceToNat, Int.reduceLT, Int.reduceLE, Int.reduceNeg, Int.reduceEq, Int.reducePow, reduceIte, reduceCtorEq, Int.reduceMul, Int.reduceAdd, Int.reduceSub, Int.reduceMod, Int.reduceDiv, Int.reduceTDiv, Int.reduceTMod]
    generalize hI : iter _ _ _ _ = I
    obtain ⟨s', hI2, hs'⟩ := loop _ row2 H2 _ _ hI ⟨_, _, row2, rfl, by rw [sa0]; exact H2, fun _ _ => rfl, by rw [sa0]; exact Frm.refl _ _, rfl, by rw [hm2]; rfl, rfl, rfl, rfl, by rw [q1 _ (by simp) (by simp)]; rfl, by rw [q1 _ (by simp) (by simp)]; rfl, rfl, rfl⟩
    obtain ⟨T, h3, row3, rfl, hT, t0, t1, t3, t10, hm3, k1, k2, k3, k4, k5, ⟨f, g, k6, k7, k8⟩, H3, F3⟩ := fin _ row2 H2 hm2 F2' s' hs'
    subst hI2
    clear hI
    have u1 := prs_fst (f := f) (g := g) hp
    have u2 := prs_snd (f := f) (g := g) hp
    rw [k7] at u1
    rw [k8] at u2
    rw [tl139 hT]
    cases wr with
    | true =>
      simp -implicitDefEqProofs only [t0, t1, t3, t10, k1, k2, k3, k4, k5, k6, u1, u2, g1, g2, g3, g4, cg, vg, vp, vl, push_cast, Nat.reduceAdd, Nat.reduceMul, Nat.reduceSub, Nat.reduceLT, Nat.reduceLeDiff, Nat.reduceEqDiff, Nat.reducePow, Int.reduceToNat, Int.reduceLT, Int.reduceLE, Int.reduceNeg, Int.reduceEq, Int.reducePow, reduceIte, reduceCtorEq, Int.reduceMul, Int.reduceAdd, Int.reduceSub, Int.reduceMod, Int.reduceDiv, Int.reduceTDiv, Int.reduceTMod]
      exact ⟨_, row3, rfl, by simpa using H3, hm3, by simpa using F3⟩
    | false =>
      simp -implicitDefEqProofs only [t0, t1, t3, t10, k1, k2, k3, k4, k5, k6, u1, u2, g1, g2, g3, g4, cg, vg, vp, vl, push_cast, Nat.reduceAdd, Nat.reduceMul, Nat.reduceSub, Nat.reduceLT, Nat.reduceLeDiff, Nat.reduceEqDiff, Nat.reducePow, Int.reduceToNat, Int.reduceLT, Int.reduceLE, Int.reduceNeg, Int.reduceEq, Int.reducePow, reduceIte, reduceCtorEq, Int.reduceMul, Int.reduceAdd, Int.reduceSub, Int.reduceMod, Int.reduceDiv, Int.reduceTDiv, Int.reduceTMod]
      exact ⟨_, row3, rfl, by simpa using H3, hm3, by simpa using F3⟩
  · have es := seen_old H1 p hpl
    have H2 : MemAt h1 ((M.tick t).seen p) row := by rw [es]; exact H1
    have F2' : Frm (own M row) (own ((M.tick t).seen p) row) h h1 := by rw [es]; exact F1
    have p1 : (prs M.np (fun p => kn M.n (row (.rd p)) (M.pl p)) (fun p => kn M.n (row (.wr p)) (M.pl p)))[p * 2]? = some (.sl (row (.rd p)) 0 0 M.n 1 M.n) := by
      rw [prs_fst hp]
      cases hh : M.pl p with
      | none => exact absurd hh hpl
      | some x => rw [kn_some]
    simp -implicitDefEqProofs only [c34, e1, e2, g1, g2, g3, g4, cg, m1, m2, m3, p1, push_cast, Nat.reduceAdd, Nat.reduceMul, Nat.reduceSub, Nat.reduceLT, Nat.reduceLeDiff, Nat.reduceEqDiff, Nat.reducePow, Int.reduceToNat, Int.reduceLT, Int.reduceLE, Int.reduceNeg, Int.reduceEq, Int.reducePow, reduceIte, reduceCtorEq, Int.reduceMul, Int.reduceAdd, Int.reduceSub, Int.reduceMod, Int.reduceDiv, Int.reduceTDiv, Int.reduceTMod]
    generalize hI : iter _ _ _ _ = I
    obtain ⟨s', hI2, hs'⟩ := loop _ row H2 _ _ hI ⟨_, _, row, rfl, by rw [sa0]; exact H2, fun _ _ => rfl, by rw [sa0]; exact Frm.refl _ _, rfl, rfl, rfl, rfl, rfl, rfl, rfl, rfl, rfl⟩
    obtain ⟨T, h3, row3, rfl, hT, t0, t1, t3, t10, hm3, k1, k2, k3, k4, k5, ⟨f, g, k6, k7, k8⟩, H3, F3⟩ := fin _ row H2 rfl F2' s' hs'
    subst hI2
    clear hI
    have u1 := prs_fst (f := f) (g := g) hp
    have u2 := prs_snd (f := f) (g := g) hp
    rw [k7] at u1
    rw [k8] at u2
    rw [tl139 hT]
    cases wr with
    | true =>
      simp -implicitDefEqProofs only [t0, t1, t3, t10, k1, k2, k3, k4, k5, k6, u1, u2, g1, g2, g3, g4, cg, vg, vp, vl, push_cast, Nat.reduceAdd, Nat.reduceMul, Nat.reduceSub, Nat.reduceLT, Nat.reduceLeDiff, Nat.reduceEqDiff, Nat.reducePow, Int.reduceToNat, Int.reduceLT, Int.reduceLE, Int.reduceNeg, Int.reduceEq, Int.reducePow, reduceIte, reduceCtorEq, Int.reduceMul, Int.reduceAdd, Int.reduceSub, Int.reduceMod, Int.reduceDiv, Int.reduceTDiv, Int.reduceTMod]
      exact ⟨_, row3, rfl, by simpa using H3, hm3, by simpa using F3⟩
    | false =>
      simp -implicitDefEqProofs only [t0, t1, t3, t10, k1, k2, k3, k4, k5, k6, u1, u2, g1, g2, g3, g4, cg, vg, vp, vl, push_cast, Nat.reduceAdd, Nat.reduceMul, Nat.reduceSub, Nat.reduceLT, Nat.reduceLeDiff, Nat.reduceEqDiff, Nat.reducePow, Int.reduceToNat, Int.reduceLT, Int.reduceLE, Int.reduceNeg, Int.reduceEq, Int.reducePow, reduceIte, reduceCtorEq, Int.reduceMul, Int.reduceAdd, Int.reduceSub, Int.reduceMod, Int.reduceDiv, Int.reduceTDiv, Int.reduceTMod]
      exact ⟨_, row3, rfl, by simpa using H3, hm3, by simpa using F3⟩
theorem read_ok (k : Nat) (h : List Row) (M : AM) (row : Tg → Nat) (H : MemAt h M row) (t p : Nat) (ht : t < M.n) (hp : p < M.np) (hops : M.ops < 1000000000) (hcl : M.cl.length < 900000000) :
    ∃ h' row', evF cm (k + 111) 26 [.p (row .mem) 0 0, .i t, .i p] h 0 = some (.i 0, h') ∧ MemAt h' (M.access t p false) row' ∧ row' .mem = row .mem ∧ Frm (own M row) (own (M.access t p false) row') h h' := by
  obtain ⟨h', row', e, H', hr, F⟩ := access_ok k h M row H t p false ht hp hops hcl
  refine ⟨h', row', ?_, H', hr, F⟩
  rw [evX_fun (m := c26) rfl _ _ _ _ H.ne0 rfl]
  simp -implicitDefEqProofs only [c26, e, push_cast, Nat.reduceAdd, Nat.reduceMul, Nat.reduceSub, Nat.reduceLT, Nat.reduceLeDiff, Nat.reduceEqDiff, Nat.reducePow, Int.reduceToNat, Int.reduceLT, Int.reduceLE, Int.reduceNeg, Int.reduceEq, Int.reducePow, reduceIte, reduceCtorEq, Int.reduceMul, Int.reduceAdd, Int.reduceSub, Int.reduceMod, Int.reduceDiv, Int.reduceTDiv, Int.reduceTMod, iter_s]
theorem write_ok (k : Nat) (h : List Row) (M : AM) (row : Tg → Nat) (H : MemAt h M row) (t p : Nat) (ht : t < M.n) (hp : p < M.np) (hops : M.ops < 1000000000) (hcl : M.cl.length < 900000000) :
    ∃ h' row', evF cm (k + 111) 37 [.p (row .mem) 0 0, .i t, .i p] h 0 = some (.i 0, h') ∧ MemAt h' (M.access t p true) row' ∧ row' .mem = row .mem ∧ Frm (own M row) (own (M.access t p true) row') h h' := by
  obtain ⟨h', row', e, H', hr, F⟩ := access_ok k h M row H t p true ht hp hops hcl
  refine ⟨h', row', ?_, H', hr, F⟩
  rw [evX_fun (m := c37) rfl _ _ _ _ H.ne0 rfl]
  simp -implicitDefEqProofs only [c37, e, push_cast, Nat.reduceAdd, Nat.reduceMul, Nat.reduceSub, Nat.reduceLT, Nat.reduceLeDiff, Nat.reduceEqDiff, Nat.reducePow, Int.reduceToNat, Int.reduceLT, Int.reduceLE, Int.reduceNeg, Int.reduceEq, Int.reducePow, reduceIte, reduceCtorEq, Int.reduceMul, Int.reduceAdd, Int.reduceSub, Int.reduceMod, Int.reduceDiv, Int.reduceTDiv, Int.reduceTMod, iter_s]
theorem read_err (k : Nat) (h : List Row) (M : AM) (row : Tg → Nat) (H : MemAt h M row) (t a : Int) (hb : t < 0 ∨ (M.n : Int) ≤ t ∨ a < 0 ∨ (M.np : Int) ≤ a) :
    evF cm (k + 5) 26 [.p (row .mem) 0 0, .i t, .i a] h 0 = some (.i 2, h) := by
  have e := access_err k h M row H t a false hb
  rw [evX_fun (m := c26) rfl _ _ _ _ H.ne0 rfl]
  simp -implicitDefEqProofs only [c26, e, push_cast, Nat.reduceAdd, Nat.reduceMul, Nat.reduceSub, Nat.reduceLT, Nat.reduceLeDiff, Nat.reduceEqDiff, Nat.reducePow, Int.reduceToNat, Int.reduceLT, Int.reduceLE, Int.reduceNeg, Int.reduceEq, Int.reducePow, reduceIte, reduceCtorEq, Int.reduceMul, Int.reduceAdd, Int.reduceSub, Int.reduceMod, Int.reduceDiv, Int.reduceTDiv, Int.reduceTMod, iter_s]
theorem write_err (k : Nat) (h : List Row) (M : AM) (row : Tg → Nat) (H : MemAt h M row) (t a : Int) (hb : t < 0 ∨ (M.n : Int) ≤ t ∨ a < 0 ∨ (M.np : Int) ≤ a) :
    evF cm (k + 5) 37 [.p (row .mem) 0 0, .i t, .i a] h 0 = some (.i 2, h) := by
  have e := access_err k h M row H t a true hb
  rw [evX_fun (m := c37) rfl _ _ _ _ H.ne0 rfl]
  simp -implicitDefEqProofs only [c37, e, push_cast, Nat.reduceAdd, Nat.reduceMul, Nat.reduceSub, Nat.reduceLT, Nat.reduceLeDiff, Nat.reduceEqDiff, Nat.reducePow, Int.reduceToNat, Int.reduceLT, Int.reduceLE, Int.reduceNeg, Int.reduceEq, Int.reducePow, reduceIte, reduceCtorEq, Int.reduceMul, Int.reduceAdd, Int.reduceSub, Int.reduceMod, Int.reduceDiv, Int.reduceTDiv, Int.reduceTMod, iter_s]
end Go.Proofs.Ytcmlnjkbdlakfaa
