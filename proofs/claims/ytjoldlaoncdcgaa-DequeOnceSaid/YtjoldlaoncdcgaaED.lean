/- A run of an owner and of thieves: an operation's end, as the evaluator answers. -/
import Derived.Test.YtjoldlaoncdcgaaEC
set_option linter.unusedSimpArgs false
set_option linter.unusedVariables false
set_option maxRecDepth 100000
set_option maxHeartbeats 16000000
namespace Go.Proofs.Ytjoldlaoncdcgaa
open Go
/-- What an operation's end makes of a run. -/
def endS (push : List Bool) (G : GM) (t : Nat) (o : AO) : GM :=
  { G with
    th := upd G.th t ⟨none, (G.th t).next, (G.th t).steps, (G.th t).over⟩
    pu := if t = 0 ∧ push.getD ((G.th t).next - 1) false = true ∧ o.w = 1 then G.pu ++ [99 + ((G.th t).next : Int)] else G.pu
    st := if 0 < t ∧ o.tk = true ∧ o.w = 1 then G.st ++ [o.v] else G.st
    go := if o.tk = true ∧ o.w = 1 then G.go ++ [o.v] else G.go }
theorem drop_F {G : GM} {gr : GR → Nat} {t : Nat} {F : Nat → LV} (hF : qc G gr = F) (u : Nat) :
    upd F (t * 4) (.v (.pointer none)) (u * 4) = qc (setO G t ⟨none, (G.th t).next, (G.th t).steps, (G.th t).over⟩) gr (u * 4) ∧ upd F (t * 4) (.v (.pointer none)) (u * 4 + 1) = qc (setO G t ⟨none, (G.th t).next, (G.th t).steps, (G.th t).over⟩) gr (u * 4 + 1) ∧ upd F (t * 4) (.v (.pointer none)) (u * 4 + 2) = qc (setO G t ⟨none, (G.th t).next, (G.th t).steps, (G.th t).over⟩) gr (u * 4 + 2) ∧ upd F (t * 4) (.v (.pointer none)) (u * 4 + 3) = qc (setO G t ⟨none, (G.th t).next, (G.th t).steps, (G.th t).over⟩) gr (u * 4 + 3) := by
  subst hF
  rw [qc0, qc1, qc2, qc3]
  by_cases e : u = t
  · subst e
    simp only [opP, setO_same]
    rw [upd_same, upd_ne _ _ (by omega), upd_ne _ _ (by omega), upd_ne _ _ (by omega), qc1, qc2, qc3]
    exact ⟨rfl, rfl, rfl, rfl⟩
  · simp only [opP, setO_ne _ _ e]
    rw [upd_ne _ _ (by omega), upd_ne _ _ (by omega), upd_ne _ _ (by omega), upd_ne _ _ (by omega), qc0, qc1, qc2, qc3]
    exact ⟨rfl, rfl, rfl, rfl⟩
section
variable {S1 S2 : LV} {c th : Int} {h : List Row} {G : GM} {row : Tg → Nat} {gr : GR → Nat}
/-- Thieves' ends, and the owner's. -/
theorem end_ok (k : Nat) (A : GAt S1 S2 c th h G row gr) {t : Nat} (ht : t < G.n) (hn : G.n ≤ 20) (push : List Bool) (hS : SlB push S1) {o : AO} (ho : (G.th t).o = some o)
    (hn0 : 0 < (G.th t).next) (hnx : (G.th t).next ≤ push.length ∨ 0 < t) (hnl : (G.th t).next ≤ 1000) (hpt : t = 0 → push.getD ((G.th t).next - 1) false = !o.tk) (s6 : (G.th t).steps ≤ 6) (s4 : 0 < t ∨ o.tk = false → (G.th t).steps ≤ 4)
    (l1 : G.pu.length < 100000) (l2 : G.st.length < 100000) (l3 : G.go.length < 100000) :
    ∃ h' gr', evF cm (k + 3) 30 [.p (gr .gm) 0 0, .i t] h 0 = some (.tup [], h') ∧ GAt S1 S2 c th h' (endS push G t o) row gr' ∧ gr' .gm = gr .gm := by
  have q1 := A.rgm
  have r1 := rowOf_lt q1
  obtain ⟨F, hF, q2, f0, f1, f2, f3⟩ := A.view t
  simp only [opP, ho] at f0
  have q3 := A.rop ht ho
  have eg := fun k => got_ok k o q3
  have r2 := rowOf_lt q2
  unfold gmC at q1
  have g1 : (t : Int) < (G.n : Int) := by omega
  have g2 : (0 : Int) ≤ (t : Int) := by omega
  have b0 : t * 4 < G.n * 4 := by omega
  have b0' : t * 4 + 1 ≤ G.n * 4 := by omega
  have b1 : t * 4 + 1 < G.n * 4 := by omega
  have b2 : t * 4 + 2 < G.n * 4 := by omega
  have g6 : ¬ (6 : Int) < ((G.th t).steps : Int) := by omega
  have cc := fun e r i => gOutG_cells e r i
  have ca := fun e r i => gOutG_atom e r i
  have ew := fun k => why_ok k o q3
  by_cases hg : o.tk = true ∧ o.w = 1
  · simp only [hg, and_self, if_true] at eg
    by_cases h0 : 0 < t
    · have g0 : (0 : Int) < (t : Int) := by omega
      have g3 : ¬ (t : Int) = 0 := by omega
      have g4 : ¬ (4 : Int) < ((G.th t).steps : Int) := by have := s4 (.inl h0); omega
      obtain ⟨hgo, g_go, apgo, pgo, Ago⟩ := A.gGo o.v l3
      obtain ⟨Hgo, hHgo⟩ : ∃ Hgo, hgo.set (gr .gm) ⟨0, [S1, .i c, .i th, S2, .p (row .mem) 0 0, .i 0, .i c, .sl (gr .ls) 0 0 G.n 4 G.n, outG 1 (gr .pu) G.pu.length, outG 1 (gr .st) G.st.length, outG 1 g_go (G.go.length + 1), .b false]⟩ = Hgo := ⟨_, rfl⟩
      rw [hHgo] at Ago
      rw [q1] at pgo
      obtain ⟨Fgo, hFgo, q2go, f0go, f1go, f2go, f3go⟩ := Ago.view t
      have q1go := Ago.rgm
      unfold gmC at q1go
      simp only [setC_eq, setC_ne _ _ (show GR.gm ≠ GR.go by simp), setC_ne _ _ (show GR.ls ≠ GR.go by simp), setC_ne _ _ (show GR.pu ≠ GR.go by simp), setC_ne _ _ (show GR.st ≠ GR.go by simp), List.length_append, List.length_singleton] at q1go q2go
      simp only [opP, ho] at f0go
      rw [setC_ne _ _ (by simp)] at f0go
      obtain ⟨hst, g_st, apst, pst, Ast⟩ := Ago.gSt o.v l2
      simp only [setC_eq, setC_ne _ _ (show GR.gm ≠ GR.go by simp), setC_ne _ _ (show GR.ls ≠ GR.go by simp), setC_ne _ _ (show GR.pu ≠ GR.go by simp), setC_ne _ _ (show GR.st ≠ GR.go by simp), List.length_append, List.length_singleton] at apst pst Ast
      obtain ⟨Hst, hHst⟩ : ∃ Hst, hst.set (gr .gm) ⟨0, [S1, .i c, .i th, S2, .p (row .mem) 0 0, .i 0, .i c, .sl (gr .ls) 0 0 G.n 4 G.n, outG 1 (gr .pu) G.pu.length, outG 1 g_st (G.st.length + 1), outG 1 g_go (G.go.length + 1), .b false]⟩ = Hst := ⟨_, rfl⟩
      rw [hHst] at Ast
      rw [q1go] at pst
      obtain ⟨Fst, hFst, q2st, f0st, f1st, f2st, f3st⟩ := Ast.view t
      have q1st := Ast.rgm
      unfold gmC at q1st
      simp only [setC_eq, setC_ne _ _ (show GR.gm ≠ GR.go by simp), setC_ne _ _ (show GR.ls ≠ GR.go by simp), setC_ne _ _ (show GR.pu ≠ GR.go by simp), setC_ne _ _ (show GR.st ≠ GR.go by simp), setC_ne _ _ (show GR.gm ≠ GR.st by simp), setC_ne _ _ (show GR.ls ≠ GR.st by simp), setC_ne _ _ (show GR.pu ≠ GR.st by simp), setC_ne _ _ (show GR.go ≠ GR.st by simp), List.length_append, List.length_singleton] at q1st q2st
      simp only [opP, ho] at f0st
      rw [setC_ne _ _ (by simp), setC_ne _ _ (by simp)] at f0st
      have sg := set_self (at_rowOf q1st)
      have A3 := Ast.drop t ⟨none, (G.th t).next, (G.th t).steps, (G.th t).over⟩ rfl (F := upd Fst (t * 4) (.v (.pointer none))) (fun u _ => drop_F hFst u)
      simp only [setC_eq, setC_ne _ _ (show GR.gm ≠ GR.go by simp), setC_ne _ _ (show GR.ls ≠ GR.go by simp), setC_ne _ _ (show GR.pu ≠ GR.go by simp), setC_ne _ _ (show GR.st ≠ GR.go by simp), setC_ne _ _ (show GR.gm ≠ GR.st by simp), setC_ne _ _ (show GR.ls ≠ GR.st by simp), setC_ne _ _ (show GR.pu ≠ GR.st by simp), setC_ne _ _ (show GR.go ≠ GR.st by simp)] at A3
      refine ⟨Hst.set (gr .ls) ⟨0, cl (G.n * 4) (upd Fst (t * 4) (.v (.pointer none)))⟩, (setC (setC gr .go g_go) .st g_st), ?_, ?_, ?_⟩
      rotate_left
      · have e : endS push G t o = setO { G with go := G.go ++ [o.v], st := G.st ++ [o.v] } t ⟨none, (G.th t).next, (G.th t).steps, (G.th t).over⟩ := by
          unfold endS setO
          rw [if_neg (by omega), if_pos ⟨h0, hg⟩, if_pos hg]
        rw [e]; exact A3
      · rw [setC_ne _ _ (by simp), setC_ne _ _ (by simp)]
      rw [evX_fun (m := c30) rfl _ _ _ _ A.ne0 rfl]
      simp -implicitDefEqProofs (maxSteps := 1000000) only [c30, q1, q2, f0, f1, f2, g1, g2, b0, b0', b1, b2, cl_get, cl_length, cl_put, eg, ew, g6, g0, g3, g4, apgo, pgo, hHgo, q1go, q2go, f2go, f1go, f0go, apst, pst, hHst, q1st, q2st, f2st, f1st, f0st, sg, cc, ca, hS.len, evX_P, evX_N, push_cast, Nat.reduceAdd, Nat.reduceMul, Nat.reduceSub, Nat.reduceLT, Nat.reduceLeDiff, Nat.reduceEqDiff, Nat.reducePow, Int.reduceToNat, Int.reduceLT, Int.reduceLE, Int.reduceNeg, Int.reduceEq, Int.reducePow, reduceIte, reduceCtorEq, Int.reduceMul, Int.reduceAdd, Int.reduceSub, Int.reduceMod, Int.reduceDiv, Int.reduceTDiv, Int.reduceTMod, iter_s]
    · have g0 : ¬ (0 : Int) < (t : Int) := by omega
      have g3 : ((t : Int) = 0) = True := eq_true (by omega)
      have hpb : push.getD ((G.th t).next - 1) false = false := by rw [hpt (by omega), hg.1]; rfl
      have hi : (G.th t).next - 1 < push.length := by omega
      have i1 := hS.ix _ hi
      have i2 := rd_bools push _ hi
      have i3 := rd_bools' push _ hi
      rw [hpb] at i2 i3
      have w1 : IntKind.i64.wrap (((G.th t).next : Int) - 1) = (((G.th t).next - 1 : Nat) : Int) := by rw [w64 _ (by omega) (by omega)]; omega
      obtain ⟨hgo, g_go, apgo, pgo, Ago⟩ := A.gGo o.v l3
      obtain ⟨Hgo, hHgo⟩ : ∃ Hgo, hgo.set (gr .gm) ⟨0, [S1, .i c, .i th, S2, .p (row .mem) 0 0, .i 0, .i c, .sl (gr .ls) 0 0 G.n 4 G.n, outG 1 (gr .pu) G.pu.length, outG 1 (gr .st) G.st.length, outG 1 g_go (G.go.length + 1), .b false]⟩ = Hgo := ⟨_, rfl⟩
      rw [hHgo] at Ago
      rw [q1] at pgo
      obtain ⟨Fgo, hFgo, q2go, f0go, f1go, f2go, f3go⟩ := Ago.view t
      have q1go := Ago.rgm
      unfold gmC at q1go
      simp only [setC_eq, setC_ne _ _ (show GR.gm ≠ GR.go by simp), setC_ne _ _ (show GR.ls ≠ GR.go by simp), setC_ne _ _ (show GR.pu ≠ GR.go by simp), setC_ne _ _ (show GR.st ≠ GR.go by simp), List.length_append, List.length_singleton] at q1go q2go
      simp only [opP, ho] at f0go
      rw [setC_ne _ _ (by simp)] at f0go
      have sg := set_self (at_rowOf q1go)
      have A3 := Ago.drop t ⟨none, (G.th t).next, (G.th t).steps, (G.th t).over⟩ rfl (F := upd Fgo (t * 4) (.v (.pointer none))) (fun u _ => drop_F hFgo u)
      simp only [setC_eq, setC_ne _ _ (show GR.gm ≠ GR.go by simp), setC_ne _ _ (show GR.ls ≠ GR.go by simp), setC_ne _ _ (show GR.pu ≠ GR.go by simp), setC_ne _ _ (show GR.st ≠ GR.go by simp)] at A3
      refine ⟨Hgo.set (gr .ls) ⟨0, cl (G.n * 4) (upd Fgo (t * 4) (.v (.pointer none)))⟩, (setC gr .go g_go), ?_, ?_, ?_⟩
      rotate_left
      · have e : endS push G t o = setO { G with go := G.go ++ [o.v] } t ⟨none, (G.th t).next, (G.th t).steps, (G.th t).over⟩ := by
          unfold endS setO
          rw [if_neg (fun hh => by rw [hpb] at hh; exact absurd hh.2.1 (by simp)), if_neg (fun hh => h0 hh.1), if_pos hg]
        rw [e]; exact A3
      · rw [setC_ne _ _ (by simp)]
      rw [evX_fun (m := c30) rfl _ _ _ _ A.ne0 rfl]
      simp -implicitDefEqProofs (maxSteps := 1000000) only [c30, q1, q2, f0, f1, f2, g1, g2, b0, b0', b1, b2, cl_get, cl_length, cl_put, eg, ew, g6, g0, g3, i1, i2, i3, w1, apgo, pgo, hHgo, q1go, q2go, f2go, f1go, f0go, sg, cc, ca, hS.len, evX_P, evX_N, push_cast, Nat.reduceAdd, Nat.reduceMul, Nat.reduceSub, Nat.reduceLT, Nat.reduceLeDiff, Nat.reduceEqDiff, Nat.reducePow, Int.reduceToNat, Int.reduceLT, Int.reduceLE, Int.reduceNeg, Int.reduceEq, Int.reducePow, reduceIte, reduceCtorEq, Int.reduceMul, Int.reduceAdd, Int.reduceSub, Int.reduceMod, Int.reduceDiv, Int.reduceTDiv, Int.reduceTMod, iter_s]
  · simp only [hg, if_false] at eg
    by_cases h0 : 0 < t
    · have g0 : (0 : Int) < (t : Int) := by omega
      have g3 : ¬ (t : Int) = 0 := by omega
      have g4 : ¬ (4 : Int) < ((G.th t).steps : Int) := by have := s4 (.inl h0); omega
      have sg := set_self (at_rowOf q1)
      have A3 := A.drop t ⟨none, (G.th t).next, (G.th t).steps, (G.th t).over⟩ rfl (F := upd F (t * 4) (.v (.pointer none))) (fun u _ => drop_F hF u)
      refine ⟨h.set (gr .ls) ⟨0, cl (G.n * 4) (upd F (t * 4) (.v (.pointer none)))⟩, gr, ?_, ?_, ?_⟩
      rotate_left
      · have e : endS push G t o = setO G t ⟨none, (G.th t).next, (G.th t).steps, (G.th t).over⟩ := by
          unfold endS setO
          rw [if_neg (by omega), if_neg (fun hh => hg hh.2), if_neg hg]
        rw [e]; exact A3
      · rfl
      rw [evX_fun (m := c30) rfl _ _ _ _ A.ne0 rfl]
      simp -implicitDefEqProofs (maxSteps := 1000000) only [c30, q1, q2, f0, f1, f2, g1, g2, b0, b0', b1, b2, cl_get, cl_length, cl_put, eg, ew, g6, g0, g3, g4, sg, cc, ca, hS.len, evX_P, evX_N, push_cast, Nat.reduceAdd, Nat.reduceMul, Nat.reduceSub, Nat.reduceLT, Nat.reduceLeDiff, Nat.reduceEqDiff, Nat.reducePow, Int.reduceToNat, Int.reduceLT, Int.reduceLE, Int.reduceNeg, Int.reduceEq, Int.reducePow, reduceIte, reduceCtorEq, Int.reduceMul, Int.reduceAdd, Int.reduceSub, Int.reduceMod, Int.reduceDiv, Int.reduceTDiv, Int.reduceTMod, iter_s]
    · cases hpb : push.getD ((G.th t).next - 1) false with
      | true =>
        have htk : o.tk = false := by
          have := hpt (by omega)
          rw [hpb] at this
          cases hh : o.tk with
          | true => rw [hh] at this; simp at this
          | false => rfl
        have g4 : ¬ (4 : Int) < ((G.th t).steps : Int) := by have := s4 (.inr htk); omega
        by_cases hw : o.w = 1
        · have g0 : ¬ (0 : Int) < (t : Int) := by omega
          have g3 : ((t : Int) = 0) = True := eq_true (by omega)
          have hi : (G.th t).next - 1 < push.length := by omega
          have i1 := hS.ix _ hi
          have i2 := rd_bools push _ hi
          have i3 := rd_bools' push _ hi
          rw [hpb] at i2 i3
          have w1 : IntKind.i64.wrap (((G.th t).next : Int) - 1) = (((G.th t).next - 1 : Nat) : Int) := by rw [w64 _ (by omega) (by omega)]; omega
          have w2 : IntKind.i64.wrap (99 + ((G.th t).next : Int)) = 99 + ((G.th t).next : Int) := w64 _ (by omega) (by omega)
          have ok1 : ∀ x a b p q, okRM1 [1, 2, 3, 4, 5, 6, 7, 8, 9, 10] x a b [(4, [p]), (5, []), (6, []), (7, []), (8, [q]), (9, []), (10, [])] = true := fun x a b p q => by cases x <;> rfl
          obtain ⟨hpu, g_pu, appu, ppu, Apu⟩ := A.gPu (99 + ((G.th t).next : Int)) l1
          obtain ⟨Hpu, hHpu⟩ : ∃ Hpu, hpu.set (gr .gm) ⟨0, [S1, .i c, .i th, S2, .p (row .mem) 0 0, .i 0, .i c, .sl (gr .ls) 0 0 G.n 4 G.n, outG 1 g_pu (G.pu.length + 1), outG 1 (gr .st) G.st.length, outG 1 (gr .go) G.go.length, .b false]⟩ = Hpu := ⟨_, rfl⟩
          rw [hHpu] at Apu
          rw [q1] at ppu
          obtain ⟨Fpu, hFpu, q2pu, f0pu, f1pu, f2pu, f3pu⟩ := Apu.view t
          have q1pu := Apu.rgm
          unfold gmC at q1pu
          simp only [setC_eq, setC_ne _ _ (show GR.gm ≠ GR.pu by simp), setC_ne _ _ (show GR.ls ≠ GR.pu by simp), setC_ne _ _ (show GR.st ≠ GR.pu by simp), setC_ne _ _ (show GR.go ≠ GR.pu by simp), List.length_append, List.length_singleton] at q1pu q2pu
          simp only [opP, ho] at f0pu
          rw [setC_ne _ _ (by simp)] at f0pu
          have sg := set_self (at_rowOf q1pu)
          have A3 := Apu.drop t ⟨none, (G.th t).next, (G.th t).steps, (G.th t).over⟩ rfl (F := upd Fpu (t * 4) (.v (.pointer none))) (fun u _ => drop_F hFpu u)
          simp only [setC_eq, setC_ne _ _ (show GR.gm ≠ GR.pu by simp), setC_ne _ _ (show GR.ls ≠ GR.pu by simp), setC_ne _ _ (show GR.st ≠ GR.pu by simp), setC_ne _ _ (show GR.go ≠ GR.pu by simp)] at A3
          refine ⟨Hpu.set (gr .ls) ⟨0, cl (G.n * 4) (upd Fpu (t * 4) (.v (.pointer none)))⟩, (setC gr .pu g_pu), ?_, ?_, ?_⟩
          rotate_left
          · have e : endS push G t o = setO { G with pu := G.pu ++ [(99 + ((G.th t).next : Int))] } t ⟨none, (G.th t).next, (G.th t).steps, (G.th t).over⟩ := by
              unfold endS setO
              rw [if_pos ⟨by omega, hpb, hw⟩, if_neg (fun hh => h0 hh.1), if_neg hg]
            rw [e]; exact A3
          · rw [setC_ne _ _ (by simp)]
          rw [evX_fun (m := c30) rfl _ _ _ _ A.ne0 rfl]
          simp -implicitDefEqProofs (maxSteps := 1000000) only [c30, q1, q2, f0, f1, f2, g1, g2, b0, b0', b1, b2, cl_get, cl_length, cl_put, eg, ew, g6, g0, g3, g4, i1, i2, i3, w1, w2, hw, ok1, appu, ppu, hHpu, q1pu, q2pu, f2pu, f1pu, f0pu, sg, cc, ca, hS.len, evX_P, evX_N, push_cast, Nat.reduceAdd, Nat.reduceMul, Nat.reduceSub, Nat.reduceLT, Nat.reduceLeDiff, Nat.reduceEqDiff, Nat.reducePow, Int.reduceToNat, Int.reduceLT, Int.reduceLE, Int.reduceNeg, Int.reduceEq, Int.reducePow, reduceIte, reduceCtorEq, Int.reduceMul, Int.reduceAdd, Int.reduceSub, Int.reduceMod, Int.reduceDiv, Int.reduceTDiv, Int.reduceTMod, iter_s]
        · have g0 : ¬ (0 : Int) < (t : Int) := by omega
          have g3 : ((t : Int) = 0) = True := eq_true (by omega)
          have hi : (G.th t).next - 1 < push.length := by omega
          have i1 := hS.ix _ hi
          have i2 := rd_bools push _ hi
          have i3 := rd_bools' push _ hi
          rw [hpb] at i2 i3
          have w1 : IntKind.i64.wrap (((G.th t).next : Int) - 1) = (((G.th t).next - 1 : Nat) : Int) := by rw [w64 _ (by omega) (by omega)]; omega
          have sg := set_self (at_rowOf q1)
          have A3 := A.drop t ⟨none, (G.th t).next, (G.th t).steps, (G.th t).over⟩ rfl (F := upd F (t * 4) (.v (.pointer none))) (fun u _ => drop_F hF u)
          refine ⟨h.set (gr .ls) ⟨0, cl (G.n * 4) (upd F (t * 4) (.v (.pointer none)))⟩, gr, ?_, ?_, ?_⟩
          rotate_left
          · have e : endS push G t o = setO G t ⟨none, (G.th t).next, (G.th t).steps, (G.th t).over⟩ := by
              unfold endS setO
              rw [if_neg (fun hh => hw hh.2.2), if_neg (fun hh => h0 hh.1), if_neg hg]
            rw [e]; exact A3
          · rfl
          rw [evX_fun (m := c30) rfl _ _ _ _ A.ne0 rfl]
          simp -implicitDefEqProofs (maxSteps := 1000000) only [c30, q1, q2, f0, f1, f2, g1, g2, b0, b0', b1, b2, cl_get, cl_length, cl_put, eg, ew, g6, g0, g3, g4, i1, i2, i3, w1, hw, sg, cc, ca, hS.len, evX_P, evX_N, push_cast, Nat.reduceAdd, Nat.reduceMul, Nat.reduceSub, Nat.reduceLT, Nat.reduceLeDiff, Nat.reduceEqDiff, Nat.reducePow, Int.reduceToNat, Int.reduceLT, Int.reduceLE, Int.reduceNeg, Int.reduceEq, Int.reducePow, reduceIte, reduceCtorEq, Int.reduceMul, Int.reduceAdd, Int.reduceSub, Int.reduceMod, Int.reduceDiv, Int.reduceTDiv, Int.reduceTMod, iter_s]
      | false =>
        have g0 : ¬ (0 : Int) < (t : Int) := by omega
        have g3 : ((t : Int) = 0) = True := eq_true (by omega)
        have hi : (G.th t).next - 1 < push.length := by omega
        have i1 := hS.ix _ hi
        have i2 := rd_bools push _ hi
        have i3 := rd_bools' push _ hi
        rw [hpb] at i2 i3
        have w1 : IntKind.i64.wrap (((G.th t).next : Int) - 1) = (((G.th t).next - 1 : Nat) : Int) := by rw [w64 _ (by omega) (by omega)]; omega
        have sg := set_self (at_rowOf q1)
        have A3 := A.drop t ⟨none, (G.th t).next, (G.th t).steps, (G.th t).over⟩ rfl (F := upd F (t * 4) (.v (.pointer none))) (fun u _ => drop_F hF u)
        refine ⟨h.set (gr .ls) ⟨0, cl (G.n * 4) (upd F (t * 4) (.v (.pointer none)))⟩, gr, ?_, ?_, ?_⟩
        rotate_left
        · have e : endS push G t o = setO G t ⟨none, (G.th t).next, (G.th t).steps, (G.th t).over⟩ := by
            unfold endS setO
            rw [if_neg (fun hh => by rw [hpb] at hh; exact absurd hh.2.1 (by simp)), if_neg (fun hh => h0 hh.1), if_neg hg]
          rw [e]; exact A3
        · rfl
        rw [evX_fun (m := c30) rfl _ _ _ _ A.ne0 rfl]
        simp -implicitDefEqProofs (maxSteps := 1000000) only [c30, q1, q2, f0, f1, f2, g1, g2, b0, b0', b1, b2, cl_get, cl_length, cl_put, eg, ew, g6, g0, g3, i1, i2, i3, w1, sg, cc, ca, hS.len, evX_P, evX_N, push_cast, Nat.reduceAdd, Nat.reduceMul, Nat.reduceSub, Nat.reduceLT, Nat.reduceLeDiff, Nat.reduceEqDiff, Nat.reducePow, Int.reduceToNat, Int.reduceLT, Int.reduceLE, Int.reduceNeg, Int.reduceEq, Int.reducePow, reduceIte, reduceCtorEq, Int.reduceMul, Int.reduceAdd, Int.reduceSub, Int.reduceMod, Int.reduceDiv, Int.reduceTDiv, Int.reduceTMod, iter_s]
end
end Go.Proofs.Ytjoldlaoncdcgaa
