/- A run of an owner and of thieves: what is left is popped, and the whole, as the evaluator answers. -/
import Derived.Test.YtjoldlaoncdcgaaEH
set_option linter.unusedSimpArgs false
set_option linter.unusedVariables false
set_option maxRecDepth 100000
set_option maxHeartbeats 16000000
namespace Go.Proofs.Ytjoldlaoncdcgaa
open Go
/-- The memory turns, the run's rows stay. -/
theorem GAt.frame {S1 S2 : LV} {c th : Int} {h h' : List Row} {G : GM} {row row' : Tg → Nat} {gr : GR → Nat} {M' : AM} (A : GAt S1 S2 c th h G row gr) (H' : MemAt h' M' row') (hrm : row' .mem = row .mem)
    (kp : ∀ k v cs, ¬ own G.M row k → k < h.length → rowOf h k v = some cs → rowOf h' k v = some cs ∧ ¬ own M' row' k) : GAt S1 S2 c th h' (setM G M') row' gr := by
  have each : ∀ τ, liveG G τ → h'[gr τ]? = some (contR S1 S2 c th G row gr τ) ∧ ¬ own M' row' (gr τ) := fun τ hτ => by
    have e := A.hat.at' τ hτ
    have hc : rowOf h (gr τ) (contR S1 S2 c th G row gr τ).ver = some (contR S1 S2 c th G row gr τ).cells := rowOf_at e
    obtain ⟨a, b⟩ := kp _ _ _ (A.dis τ hτ) (A.lt hτ) hc
    exact ⟨at_rowOf a, b⟩
  refine ⟨H', ⟨fun τ hτ => ?_, A.hat.inj⟩, fun τ hτ => (each τ hτ).2⟩
  rw [(each τ hτ).1]
  refine congrArg some ?_
  cases τ with
  | gm => simp only [contR, hrm]; rfl
  | _ => rfl
structure FinSt (S1 S2 : LV) (th : Int) (c n g0 : Nat) (j : Nat) (h : List Row) (row : Tg → Nat) (gr : GR → Nat) (G : GM) (T : Nat) (X : List Int) : Prop where
  A : GAt S1 S2 c th h G row gr
  gg : gr .gm = g0
  Gn : G.n = n
  d : DInv G.M 0 c T X
  le : T + X.length ≤ 100
  jx : j + X.length ≤ 40
  perm : (G.go ++ X).Perm G.pu
  nd : G.pu.Nodup
  srt : G.st.Pairwise (· < ·)
  Mn : G.M.n = n
  na : G.M.na = c + 2
  ops : G.M.ops ≤ 10000 + 6 * (j : Int)
  pu : G.pu.length ≤ 10000
  st : G.st.length ≤ 10000
  go : G.go.length ≤ 10000 + j
theorem RunSt.fin {S1 S2 : LV} {th : Int} {c n g0 i : Nat} {push : List Bool} {h : List Row} (R : RunSt S1 S2 th push c n g0 i 0 h) (hi : i ≤ 10000) : ∃ row gr G T X, FinSt S1 S2 th c n g0 0 h row gr G T X := by
  obtain ⟨row, gr, G, T, X, A, H, Y, e, hr⟩ := R
  have hov := rem_zero (Nat.le_zero.1 hr)
  have ho := H.rest hov
  have hb := H.bd40
  have hr' := H.r
  have hp := H.perm
  rw [ho] at hp
  have := Y.ops
  have := Y.pu
  have := Y.st
  have := Y.go
  have hid := H.idle ho
  refine ⟨row, gr, G, T, X, A, e, Y.Gn, ⟨H.top, by rw [show 0 + 1 = 1 from rfl, hid]; omega, H.len, H.c0, fun i x e => by rw [show 0 + 2 + (T + i) % c = 2 + (T + i) % c by omega]; exact H.at' i x e⟩, by omega, by omega, by simpa [infl] using hp, H.nd, (List.pairwise_append.1 H.srt).1, Y.Mn, Y.na, by omega, by omega, by omega, by omega⟩
def fgF : List Nat := [53, 52, 85, 84, 83, 82, 81, 80, 79, 78, 77, 76, 75, 74, 73, 72, 69, 71, 70, 68, 67, 66, 65, 64, 63, 62, 61, 60, 59, 58, 57, 56, 55, 54, 51, 50]
section
variable {S1 S2 : LV} {th : Int} {c n g0 : Nat}
def SF (S1 S2 : LV) (th : Int) (c n g0 : Nat) (j : Nat) (s : St) : Prop := ∃ T h row gr G T0 X, s = (T, h) ∧ FinSt S1 S2 th c n g0 j h row gr G T0 X ∧ T.length = 86 ∧ getT T 0 = .p g0 0 0 ∧ getT T 6 = .i j
structure DoneSt (S1 S2 : LV) (th : Int) (c n g0 : Nat) (h : List Row) (row : Tg → Nat) (gr : GR → Nat) (G : GM) : Prop where
  A : GAt S1 S2 c th h G row gr
  gg : gr .gm = g0
  Gn : G.n = n
  perm : G.go.Perm G.pu
  nd : G.pu.Nodup
  srt : G.st.Pairwise (· < ·)
  pu : G.pu.length ≤ 10000
  st : G.st.length ≤ 10000
def SE (S1 S2 : LV) (th : Int) (c n g0 : Nat) (s : St) : Prop := ∃ T h row gr G, s = (T, h) ∧ T.length = 86 ∧ DoneSt S1 S2 th c n g0 h row gr G
/-- A pop that is done alone. -/
theorem pop_alone (k : Nat) (hn0 : 0 < n) (hc : 0 < c ∧ c ≤ 100) {j : Nat} {h : List Row} {row : Tg → Nat} {gr : GR → Nat} {G : GM} {T0 : Nat} {X : List Int} (Q : FinSt S1 S2 th c n g0 j h row gr G T0 X) {M' : AM} {o' : AO} {m T1 : Nat} {X' : List Int} (hm : m ≤ 6) (hm0 : 0 < m) (R : Runs 0 G.M (AO.pop 0 c) m M' o') (D : DInv M' 0 c T1 X') (hw : o'.w ≠ 0) :
    ∃ h' row', evF cm (k + 130) 13 [.p (h.length + 1) 0 0, .p (row .mem) 0 0, .i 0] (h ++ [⟨0, [.i 0, .i c]⟩, ⟨0, opC 0 c (.f 20 []) 0 true 0 0 0⟩]) 0 = some (.i m, h') ∧ rowOf h' (h.length + 1) 0 = some o'.cells ∧ GAt S1 S2 c th h' (setM G M') row' gr ∧ M'.n = G.M.n ∧ M'.na = G.M.na ∧ M'.ops = G.M.ops + m := by
  have q1 : rowOf (h ++ [⟨0, [.i 0, .i c]⟩, ⟨0, (AO.pop 0 c).cells⟩]) (h.length + 1) 0 = some (AO.pop 0 c).cells := by
    refine rowOf_at ?_
    rw [List.getElem?_append_right (by omega), Nat.add_sub_cancel_left]; rfl
  have hops := Q.ops
  have hj := Q.jx
  obtain ⟨h', row', e, H', hrm, kp, ho', hn', hna', hops'⟩ := alone k 0 (Q.A.mem.app [⟨0, [.i 0, .i c]⟩, ⟨0, (AO.pop 0 c).cells⟩]) (by rw [Q.Mn]; exact hn0) (by rw [Q.na]; simp only [AO.pop]; omega) hc.1 (by rw [Q.na]; omega) (by omega) q1 (fun hh => by have := Q.A.mem.own hh; omega) (by omega) hm0 R hw
  exact ⟨h', row', e, ho', Q.A.frame H' hrm fun kk v cs h1 h2 h3 => kp kk v cs h1 (by omega) (by rw [rowOf_app_lt h2]; exact h3), hn', hna', hops'⟩
theorem pops_round (K : Nat) (hK : 200 ≤ K) (hn0 : 0 < n) (hc : 0 < c ∧ c ≤ 100) (j : Nat) (s : St) (hj : j < 41) (hs : SF S1 S2 th c n g0 j s) :
    (∃ s', evCode (evF cm K) K 0 c16b0 (cleanN fgF s) = some (.nrm, s') ∧ SF S1 S2 th c n g0 (j + 1) s') ∨ ∃ s', evCode (evF cm K) K 0 c16b0 (cleanN fgF s) = some (.ret, s') ∧ SE S1 S2 th c n g0 s' := by
  obtain ⟨k, rfl⟩ : ∃ k, K = k + 130 := ⟨K - 130, by omega⟩
  obtain ⟨T, h, row, gr, G, T0, X, rfl, Q, hT, t0, t6⟩ := hs
  rw [tl86 hT]
  have g1 : (j : Int) < 60 := by omega
  have w1 : IntKind.i64.wrap ((j : Int) + 1) = (j : Int) + 1 := w64 _ (by omega) (by omega)
  have A := Q.A
  have hne := A.ne0
  have q1 := A.rgm
  have e0 := Q.gg
  unfold gmC at q1
  rw [e0] at q1
  have hlt := rowOf_lt q1
  have e9 := fun k => pop_mk k h hne 0 c
  have q1a : ∀ x, rowOf (h ++ x) g0 0 = _ := fun x => (rowOf_app_lt hlt).trans q1
  have hjx := Q.jx
  have hle := Q.le
  have hops := Q.ops
  have hgo := Q.go
  have cc := fun e r i => gOutG_cells e r i
  have ca := fun e r i => gOutG_atom e r i
  rcases List.eq_nil_or_concat X with hX | ⟨X0, z, hX⟩
  · subst hX
    right
    obtain ⟨M', o', R, D, w, tk⟩ := pop_none 0 Q.d (by omega)
    obtain ⟨h', row', er, ho', A', n1, n2, n3⟩ := pop_alone k hn0 hc Q (by omega) (by omega) R D (by omega)
    have eg := fun k => got_ok k o' ho'
    simp only [w, tk] at eg
    have c4 : ((4 : Nat) : Int) = 4 := rfl
    rw [c4] at er
    simp -implicitDefEqProofs only [c16b0, fgF, t0, t6, g1, w1, q1, q1a, e9, er, eg, evX_P, evX_N, push_cast, Nat.reduceAdd, Nat.reduceMul, Nat.reduceSub, Nat.reduceLT, Nat.reduceLeDiff, Nat.reduceEqDiff, Nat.reducePow, Int.reduceToNat, Int.reduceLT, Int.reduceLE, Int.reduceNeg, Int.reduceEq, Int.reducePow, reduceIte, reduceCtorEq, Int.reduceMul, Int.reduceAdd, Int.reduceSub, Int.reduceMod, Int.reduceDiv, Int.reduceTDiv, Int.reduceTMod, iter_s]
    refine ⟨_, rfl, ?_⟩
    exact ⟨_, h', row', gr, _, rfl, rfl, A', e0, Q.Gn, by have := Q.perm; rwa [List.append_nil] at this, Q.nd, Q.srt, Q.pu, Q.st⟩
  · rw [List.concat_eq_append] at hX
    subst hX
    left
    have hperm : ((G.go ++ [z]) ++ X0).Perm G.pu := by
      refine List.Perm.trans ?_ Q.perm
      rw [List.append_assoc]
      exact List.perm_append_comm.append_left _
    by_cases hX0 : X0 = []
    · subst hX0
      obtain ⟨M', o', R, D, w, tk, hv⟩ := pop_one 0 Q.d (by simp at hle; omega)
      obtain ⟨h', row', er, ho', A', n1, n2, n3⟩ := pop_alone k hn0 hc Q (by omega) (by omega) R D (by omega)
      have eg := fun k => got_ok k o' ho'
      simp only [w, tk, hv] at eg
      have c4 : ((6 : Nat) : Int) = 6 := rfl
      rw [c4] at er
      have q2 := A'.rgm
      unfold gmC at q2
      rw [e0] at q2
      obtain ⟨h2, r2, ap, p2, A2⟩ := A'.gGo z (by show G.go.length < _; omega)
      rw [e0] at p2 A2
      rw [q2] at p2
      simp -implicitDefEqProofs (maxSteps := 1000000) only [c16b0, fgF, t0, t6, g1, w1, q1, q1a, e9, er, eg, q2, ap, p2, cc, ca, evX_P, evX_N, push_cast, Nat.reduceAdd, Nat.reduceMul, Nat.reduceSub, Nat.reduceLT, Nat.reduceLeDiff, Nat.reduceEqDiff, Nat.reducePow, Int.reduceToNat, Int.reduceLT, Int.reduceLE, Int.reduceNeg, Int.reduceEq, Int.reducePow, reduceIte, reduceCtorEq, Int.reduceMul, Int.reduceAdd, Int.reduceSub, Int.reduceMod, Int.reduceDiv, Int.reduceTDiv, Int.reduceTMod, iter_s]
      refine ⟨_, rfl, ?_⟩
      exact ⟨_, _, row', _, _, T0 + 1, [], rfl, ⟨A2, (setC_ne _ _ (by simp)).trans e0, Q.Gn, D, by simp at hle ⊢; omega, by simp at hjx ⊢; omega, hperm, Q.nd, Q.srt, n1.trans Q.Mn, n2.trans Q.na, by show M'.ops ≤ _; rw [n3]; push_cast; omega, Q.pu, Q.st, by show (G.go ++ [z]).length ≤ _; simp; omega⟩, rfl, rfl, rfl⟩
    · have hXl : 0 < X0.length := by cases X0 with
        | nil => exact absurd rfl hX0
        | cons _ _ => simp
      obtain ⟨M', o', R, D, w, tk, hv⟩ := pop_more 0 Q.d (by simp at hle; omega) hXl
      obtain ⟨h', row', er, ho', A', n1, n2, n3⟩ := pop_alone k hn0 hc Q (by omega) (by omega) R D (by omega)
      have eg := fun k => got_ok k o' ho'
      simp only [w, tk, hv] at eg
      have c4 : ((4 : Nat) : Int) = 4 := rfl
      rw [c4] at er
      have q2 := A'.rgm
      unfold gmC at q2
      rw [e0] at q2
      obtain ⟨h2, r2, ap, p2, A2⟩ := A'.gGo z (by show G.go.length < _; omega)
      rw [e0] at p2 A2
      rw [q2] at p2
      simp -implicitDefEqProofs (maxSteps := 1000000) only [c16b0, fgF, t0, t6, g1, w1, q1, q1a, e9, er, eg, q2, ap, p2, cc, ca, evX_P, evX_N, push_cast, Nat.reduceAdd, Nat.reduceMul, Nat.reduceSub, Nat.reduceLT, Nat.reduceLeDiff, Nat.reduceEqDiff, Nat.reducePow, Int.reduceToNat, Int.reduceLT, Int.reduceLE, Int.reduceNeg, Int.reduceEq, Int.reducePow, reduceIte, reduceCtorEq, Int.reduceMul, Int.reduceAdd, Int.reduceSub, Int.reduceMod, Int.reduceDiv, Int.reduceTDiv, Int.reduceTMod, iter_s]
      refine ⟨_, rfl, ?_⟩
      exact ⟨_, _, row', _, _, T0, X0, rfl, ⟨A2, (setC_ne _ _ (by simp)).trans e0, Q.Gn, D, by simp at hle ⊢; omega, by simp at hjx ⊢; omega, hperm, Q.nd, Q.srt, n1.trans Q.Mn, n2.trans Q.na, by show M'.ops ≤ _; rw [n3]; push_cast; omega, Q.pu, Q.st, by show (G.go ++ [z]).length ≤ _; simp; omega⟩, rfl, rfl, rfl⟩
/-- The whole run. -/
theorem all_ok (K : Nat) (hK : 1000 ≤ K) {push : List Bool} (hn0 : 0 < n) (hn : n ≤ 20) (hc : 0 < c ∧ c ≤ 100) (hp : push.length ≤ 40) (hS : SlB push S1) (l : List Int) (hS2 : SlU l S2) (hl : l.length ≤ 400) {h : List Row} (R : RunSt S1 S2 th push c n g0 0 300 h) :
    ∃ h' row gr G, evF cm (K + 1) 16 [.p g0 0 0] h 0 = some (.tup [], h') ∧ DoneSt S1 S2 th c n g0 h' row gr G := by
  have key3 : ∀ s I, iter (evCode (evF cm K) K 0 c16b3) (cleanN fgP) K s = I → SPk S1 S2 th push c n g0 0 s → ∃ s', I = some (.exit 0, s') ∧ SPk S1 S2 th push c n g0 l.length s' := by
    intro s I hI hs
    obtain ⟨s', h1, h2⟩ := iter_count (fun i s hi hs => picks_round K (by omega) hn0 hn hc.2 hp hS l hS2 hl i s hi hs) (fun s hs => picks_last K l hS2 s hs) l.length 0 s K (by omega) (by omega) hs
    exact ⟨s', hI.symm.trans h1, h2⟩
  have key2 : ∀ s I, iter (evCode (evF cm K) K 0 c16b2) (cleanN fgR2) K s = I → SRd S1 S2 th push c n g0 0 s → ∃ s', I = some (.exit 2, s') ∧ SRd S1 S2 th push c n g0 400 s' := by
    intro s I hI hs
    obtain ⟨s', h1, h2⟩ := iter_count (fun i s hi hs => rounds_round K (by omega) hn0 hn hc.2 hp hS i s hi hs) (fun s hs => rounds_last K s hs) 400 0 s K (by omega) (by omega) hs
    exact ⟨s', hI.symm.trans h1, h2⟩
  have key0 : ∀ s I, iter (evCode (evF cm K) K 0 c16b0) (cleanN fgF) K s = I → SF S1 S2 th c n g0 0 s → ∃ s', I = some (.ret, s') ∧ SE S1 S2 th c n g0 s' := by
    intro s I hI hs
    have hh := iter_until (Re := fun _ => False) (e := 0) (S := fun i s => SF S1 S2 th c n g0 i s) (fun i s hi hs => pops_round K (by omega) hn0 hc i s hi hs) (fun s hs => by
      obtain ⟨T, h, row, gr, G, T0, X, rfl, Q, -⟩ := hs
      have := Q.jx; omega) 41 0 s K (by omega) (by omega) hs
    rcases hh with ⟨_, _, hf⟩ | ⟨s', h1, h2⟩
    · exact hf.elim
    · exact ⟨s', hI ▸ h1, h2⟩
  obtain ⟨hne, m, ls, P, S, O, q1⟩ := R.gm
  rw [evX_fun (m := c16) rfl _ _ _ _ hne rfl]
  simp -implicitDefEqProofs only [c16, q1, push_cast, Nat.reduceAdd, Nat.reduceMul, Nat.reduceSub, Nat.reduceLT, Nat.reduceLeDiff, Nat.reduceEqDiff, Nat.reducePow, Int.reduceToNat, Int.reduceLT, Int.reduceLE, Int.reduceNeg, Int.reduceEq, Int.reducePow, reduceIte, reduceCtorEq, Int.reduceMul, Int.reduceAdd, Int.reduceSub, Int.reduceMod, Int.reduceDiv, Int.reduceTDiv, Int.reduceTMod]
  generalize hI : iter (evCode (evF cm K) K 0 c16b3) _ _ _ = I
  obtain ⟨s', hI2, T1, h1, rfl, R1, hT1, t0, t2, t3⟩ := key3 _ _ hI ⟨_, h, rfl, R, rfl, rfl, rfl, rfl⟩
  subst hI2
  clear hI
  rw [tl86 hT1]
  simp -implicitDefEqProofs only [t0, t2, t3, push_cast, Nat.reduceAdd, Nat.reduceMul, Nat.reduceSub, Nat.reduceLT, Nat.reduceLeDiff, Nat.reduceEqDiff, Nat.reducePow, Int.reduceToNat, Int.reduceLT, Int.reduceLE, Int.reduceNeg, Int.reduceEq, Int.reducePow, reduceIte, reduceCtorEq, Int.reduceMul, Int.reduceAdd, Int.reduceSub, Int.reduceMod, Int.reduceDiv, Int.reduceTDiv, Int.reduceTMod]
  generalize hI : iter (evCode (evF cm K) K 0 c16b2) _ _ _ = I
  obtain ⟨s', hI2, T2, h2, rfl, R2, hT2, u0, u2, u4⟩ := key2 _ _ hI ⟨_, h1, rfl, R1.mono (by omega) (by omega), rfl, rfl, rfl, rfl⟩
  subst hI2
  clear hI
  rw [tl86 hT2]
  simp -implicitDefEqProofs only [u0, u2, u4, push_cast, Nat.reduceAdd, Nat.reduceMul, Nat.reduceSub, Nat.reduceLT, Nat.reduceLeDiff, Nat.reduceEqDiff, Nat.reducePow, Int.reduceToNat, Int.reduceLT, Int.reduceLE, Int.reduceNeg, Int.reduceEq, Int.reducePow, reduceIte, reduceCtorEq, Int.reduceMul, Int.reduceAdd, Int.reduceSub, Int.reduceMod, Int.reduceDiv, Int.reduceTDiv, Int.reduceTMod]
  generalize hI : iter (evCode (evF cm K) K 0 c16b0) _ _ _ = I
  obtain ⟨row, gr, G, T0, X, Q⟩ := (R2.mono (Nat.le_refl _) (r' := 0) (by omega)).fin (by omega)
  obtain ⟨s', hI2, T3, h3, row3, gr3, G3, rfl, hT3, D⟩ := key0 _ _ hI ⟨_, h2, row, gr, G, T0, X, rfl, Q, rfl, rfl, rfl⟩
  subst hI2
  refine ⟨h3, row3, gr3, G3, ?_, D⟩
  rw [tl86 hT3]
  simp -implicitDefEqProofs only [push_cast, Nat.reduceAdd, Nat.reduceMul, Nat.reduceSub, Nat.reduceLT, Nat.reduceLeDiff, Nat.reduceEqDiff, Nat.reducePow, Int.reduceToNat, Int.reduceLT, Int.reduceLE, Int.reduceNeg, Int.reduceEq, Int.reducePow, reduceIte, reduceCtorEq, Int.reduceMul, Int.reduceAdd, Int.reduceSub, Int.reduceMod, Int.reduceDiv, Int.reduceTDiv, Int.reduceTMod]
end
end Go.Proofs.Ytjoldlaoncdcgaa
