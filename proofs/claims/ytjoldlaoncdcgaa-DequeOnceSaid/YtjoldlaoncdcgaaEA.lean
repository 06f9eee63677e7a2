/- A run of an owner and of thieves, as it lies in a heap. -/
import Derived.Test.YtjoldlaoncdcgaaDL
import Derived.Test.YtjoldlaoncdcgaaDI
set_option linter.unusedSimpArgs false
set_option linter.unusedVariables false
set_option maxRecDepth 100000
set_option maxHeartbeats 16000000
namespace Go.Proofs.Ytjoldlaoncdcgaa
open Go
/-! ### rows of things -/
def cl (n : Nat) (F : Nat → LV) : List LV := (List.range n).map F
theorem cl_length (n : Nat) (F : Nat → LV) : (cl n F).length = n := by simp [cl]
theorem cl_get {n : Nat} {F : Nat → LV} {j : Nat} (h : j < n) : (cl n F)[j]? = some (F j) := by simp [cl, h]
theorem cl_put {n : Nat} {F : Nat → LV} {j : Nat} {x : LV} (h : j < n) : List.take j (cl n F) ++ [x] ++ List.drop (j + 1) (cl n F) = cl n (upd F j x) := by
  rw [List.append_assoc, List.cons_append, List.nil_append]
  refine List.ext_getElem? fun i => ?_
  rw [List.getElem?_append]
  have hl : (List.take j (cl n F)).length = j := by rw [List.length_take, cl_length]; omega
  rw [hl]
  by_cases hi : i < j
  · rw [if_pos hi, List.getElem?_take, if_pos hi, cl_get (by omega), cl_get (by omega), upd_ne _ _ (by omega)]
  · rw [if_neg hi]
    by_cases he : i = j
    · subst he; rw [Nat.sub_self, cl_get h, upd_same]; rfl
    · rw [show i - j = (i - j - 1) + 1 by omega, List.getElem?_cons_succ, List.getElem?_drop, show j + 1 + (i - j - 1) = i by omega]
      by_cases hn : i < n
      · rw [cl_get hn, cl_get hn, upd_ne _ _ he]
      · rw [List.getElem?_eq_none (by rw [cl_length]; omega), List.getElem?_eq_none (by rw [cl_length]; omega)]
theorem cl4_congr {n : Nat} {F F' : Nat → LV} (h : ∀ t, t < n → F (t * 4) = F' (t * 4) ∧ F (t * 4 + 1) = F' (t * 4 + 1) ∧ F (t * 4 + 2) = F' (t * 4 + 2) ∧ F (t * 4 + 3) = F' (t * 4 + 3)) : cl (n * 4) F = cl (n * 4) F' := by
  unfold cl
  refine List.map_congr_left fun j hj => ?_
  have hj := List.mem_range.1 hj
  obtain ⟨a, b, c, d⟩ := h (j / 4) (by omega)
  have : j % 4 = 0 ∨ j % 4 = 1 ∨ j % 4 = 2 ∨ j % 4 = 3 := by omega
  rcases this with e | e | e | e
  · rwa [show j / 4 * 4 = j by omega] at a
  · rwa [show j / 4 * 4 + 1 = j by omega] at b
  · rwa [show j / 4 * 4 + 2 = j by omega] at c
  · rwa [show j / 4 * 4 + 3 = j by omega] at d
/-! ### roles -/
inductive GR where
  | gm | ls | pu | st | go
  | op (t : Nat)
  deriving DecidableEq
def liveG (G : GM) : GR → Prop
  | .pu => G.pu ≠ []
  | .st => G.st ≠ []
  | .go => G.go ≠ []
  | .op t => t < G.n ∧ (G.th t).o ≠ none
  | _ => True
def opP (G : GM) (gr : GR → Nat) (t : Nat) : LV := match (G.th t).o with
  | some _ => .p (gr (.op t)) 0 0
  | none => .v (.pointer none)
/-- A thread's cells. -/
def qc (G : GM) (gr : GR → Nat) (j : Nat) : LV :=
  if j % 4 = 0 then opP G gr (j / 4) else if j % 4 = 1 then .i (G.th (j / 4)).next else if j % 4 = 2 then .i (G.th (j / 4)).steps else .b (G.th (j / 4)).over
theorem qc0 (G : GM) (gr : GR → Nat) (t : Nat) : qc G gr (t * 4) = opP G gr t := by unfold qc; rw [if_pos (by omega), show t * 4 / 4 = t by omega]
theorem qc1 (G : GM) (gr : GR → Nat) (t : Nat) : qc G gr (t * 4 + 1) = .i (G.th t).next := by unfold qc; rw [if_neg (by omega), if_pos (by omega), show (t * 4 + 1) / 4 = t by omega]
theorem qc2 (G : GM) (gr : GR → Nat) (t : Nat) : qc G gr (t * 4 + 2) = .i (G.th t).steps := by unfold qc; rw [if_neg (by omega), if_neg (by omega), if_pos (by omega), show (t * 4 + 2) / 4 = t by omega]
theorem qc3 (G : GM) (gr : GR → Nat) (t : Nat) : qc G gr (t * 4 + 3) = .b (G.th t).over := by unfold qc; rw [if_neg (by omega), if_neg (by omega), if_neg (by omega), show (t * 4 + 3) / 4 = t by omega]
def gmC (S1 S2 : LV) (c th : Int) (m l n : Nat) (P S O : LV) : List LV := [S1, .i c, .i th, S2, .p m 0 0, .i 0, .i c, .sl l 0 0 n 4 n, P, S, O, .b false]
def contR (S1 S2 : LV) (c th : Int) (G : GM) (row : Tg → Nat) (gr : GR → Nat) : GR → Row
  | .gm => ⟨0, gmC S1 S2 c th (row .mem) (gr .ls) G.n (outG 1 (gr .pu) G.pu.length) (outG 1 (gr .st) G.st.length) (outG 1 (gr .go) G.go.length)⟩
  | .ls => ⟨0, cl (G.n * 4) (qc G gr)⟩
  | .pu => ⟨G.pu.length - 1, G.pu.map LV.i⟩
  | .st => ⟨G.st.length - 1, G.st.map LV.i⟩
  | .go => ⟨G.go.length - 1, G.go.map LV.i⟩
  | .op t => match (G.th t).o with
    | some o => ⟨0, o.cells⟩
    | none => ⟨0, []⟩
structure GAt (S1 S2 : LV) (c th : Int) (h : List Row) (G : GM) (row : Tg → Nat) (gr : GR → Nat) : Prop where
  mem : MemAt h G.M row
  hat : HAt h (liveG G) gr (contR S1 S2 c th G row gr)
  dis : ∀ τ, liveG G τ → ¬ own G.M row (gr τ)
section
variable {S1 S2 : LV} {c th : Int} {h : List Row} {G : GM} {row : Tg → Nat} {gr : GR → Nat}
theorem GAt.rgm (A : GAt S1 S2 c th h G row gr) : rowOf h (gr .gm) 0 = some (gmC S1 S2 c th (row .mem) (gr .ls) G.n (outG 1 (gr .pu) G.pu.length) (outG 1 (gr .st) G.st.length) (outG 1 (gr .go) G.go.length)) := rowOf_at (A.hat.at' .gm trivial)
theorem GAt.rls (A : GAt S1 S2 c th h G row gr) : rowOf h (gr .ls) 0 = some (cl (G.n * 4) (qc G gr)) := rowOf_at (A.hat.at' .ls trivial)
theorem GAt.rop (A : GAt S1 S2 c th h G row gr) {t : Nat} {o : AO} (ht : t < G.n) (ho : (G.th t).o = some o) : rowOf h (gr (.op t)) 0 = some o.cells := by
  have := A.hat.at' (.op t) (show liveG G (.op t) from And.intro ht (by rw [ho]; simp))
  simp only [contR, ho] at this
  exact rowOf_at this
theorem GAt.ne0 (A : GAt S1 S2 c th h G row gr) : h.isEmpty = false := A.mem.ne0
/-- A new operation of a thread. -/
def newH (c : Int) (h : List Row) (G : GM) (gr : GR → Nat) (t : Nat) (cs : List LV) : List Row :=
  (h ++ [(⟨0, [.i 0, .i c]⟩ : Row), (⟨0, cs⟩ : Row)]).set (gr .ls) (⟨0, cl (G.n * 4) (upd (upd (upd (qc G gr) (t * 4) (.p (h.length + 1) 0 0)) (t * 4 + 1) (.i ((G.th t).next + 1))) (t * 4 + 2) (.i 0))⟩ : Row)
/-- A thief begins. -/
theorem begin_th (k : Nat) (A : GAt S1 S2 c th h G row gr) {t : Nat} (h1 : 0 < t) (ht : t < G.n) (hn : G.n ≤ 20) (hx : (G.th t).next < 12) :
    evF cm (k + 2) 29 [.p (gr .gm) 0 0, .i t] h 0 = some (.b true, newH c h G gr t (opC 0 c (.f 21 []) 0 true 0 0 0)) := by
  have e11 := fun k => steal_mk k h A.ne0 0 c
  have q1 := A.rgm
  have q2 := A.rls
  have r1 := rowOf_lt q1
  have r2 := rowOf_lt q2
  unfold gmC at q1
  have g1 : (t : Int) < (G.n : Int) := by omega
  have g0 : (0 : Int) < (t : Int) := by omega
  have g2 : (0 : Int) ≤ (t : Int) := by omega
  have g3 : ¬ (12 : Int) ≤ ((G.th t).next : Int) := by omega
  have b0 : t * 4 < G.n * 4 := by omega
  have b1 : t * 4 + 1 < G.n * 4 := by omega
  have b2 : t * 4 + 2 < G.n * 4 := by omega
  have b3 : t * 4 + 1 ≤ G.n * 4 := by omega
  have b4 : t * 4 + 2 ≤ G.n * 4 := by omega
  have b5 : t * 4 + 3 ≤ G.n * 4 := by omega
  have n1 : ∀ x, upd (qc G gr) (t * 4) x (t * 4 + 1) = .i (G.th t).next := fun x => by rw [upd_ne _ _ (by omega), qc1]
  have n2 : ∀ x y, (h ++ x).set (gr .ls) y = h.set (gr .ls) y ++ x := fun x y => List.set_append_left _ _ r2
  have n3 : ∀ x, rowOf (h ++ x) (gr .ls) 0 = some (cl (G.n * 4) (qc G gr)) := fun x => by rw [rowOf_app_lt r2]; exact q2
  have n4 : ∀ x cs, rowOf (h.set (gr .ls) ⟨0, cs⟩ ++ x) (gr .ls) 0 = some cs := fun x cs => by rw [rowOf_app_lt (by simpa using r2)]; exact rowOf_set_eq r2
  have n5 : ∀ x y z, (h.set (gr .ls) z ++ x).set (gr .ls) y = h.set (gr .ls) y ++ x := fun x y z => by rw [List.set_append_left _ _ (by simpa using r2), List.set_set]
  have w1 : IntKind.i64.wrap (((G.th t).next : Int) + 1) = ((G.th t).next : Int) + 1 := w64 _ (by omega) (by omega)
  unfold newH
  rw [evX_fun (m := c29) rfl _ _ _ _ A.ne0 rfl, n2]
  simp -implicitDefEqProofs only [c29, q1, q2, g1, g0, g2, g3, b0, b1, b2, b3, b4, b5, n1, n2, n3, n4, n5, w1, evX_P, evX_N, e11, cl_get, cl_length, cl_put, qc0, qc1, qc2, qc3, push_cast, Nat.reduceAdd, Nat.reduceMul, Nat.reduceSub, Nat.reduceLT, Nat.reduceLeDiff, Nat.reduceEqDiff, Nat.reducePow, Int.reduceToNat, Int.reduceLT, Int.reduceLE, Int.reduceNeg, Int.reduceEq, Int.reducePow, reduceIte, reduceCtorEq, Int.reduceMul, Int.reduceAdd, Int.reduceSub, Int.reduceMod, Int.reduceDiv, Int.reduceTDiv, Int.reduceTMod, iter_s]
theorem begin_th0 (k : Nat) (A : GAt S1 S2 c th h G row gr) {t : Nat} (h1 : 0 < t) (ht : t < G.n) (hn : G.n ≤ 20) (hx : ¬ (G.th t).next < 12) :
    evF cm (k + 2) 29 [.p (gr .gm) 0 0, .i t] h 0 = some (.b false, h) := by
  have q1 := A.rgm
  have q2 := A.rls
  have r1 := rowOf_lt q1
  have r2 := rowOf_lt q2
  unfold gmC at q1
  have g1 : (t : Int) < (G.n : Int) := by omega
  have g0 : (0 : Int) < (t : Int) := by omega
  have g2 : (0 : Int) ≤ (t : Int) := by omega
  have g3 : (12 : Int) ≤ ((G.th t).next : Int) := by omega
  have b1 : t * 4 + 1 < G.n * 4 := by omega
  rw [evX_fun (m := c29) rfl _ _ _ _ A.ne0 rfl]
  simp -implicitDefEqProofs only [c29, q1, q2, g1, g0, g2, g3, b1, cl_get, cl_length, qc0, qc1, qc2, qc3, push_cast, Nat.reduceAdd, Nat.reduceMul, Nat.reduceSub, Nat.reduceLT, Nat.reduceLeDiff, Nat.reduceEqDiff, Nat.reducePow, Int.reduceToNat, Int.reduceLT, Int.reduceLE, Int.reduceNeg, Int.reduceEq, Int.reducePow, reduceIte, reduceCtorEq, Int.reduceMul, Int.reduceAdd, Int.reduceSub, Int.reduceMod, Int.reduceDiv, Int.reduceTDiv, Int.reduceTMod, iter_s]
/-- A slice of truths. -/
structure SlB (l : List Bool) (S : LV) : Prop where
  len : lenE S = some (.i l.length)
  atm : atomB S = true
  cells : S.cells = [S]
  cl : closed S = true
  ix : ∀ i : Nat, i < l.length → ixsE 1 S (.i i) = some (.pi ((l.map LV.b).drop i))
theorem rd_bools (l : List Bool) (n : Nat) (h : n < l.length) : rdAt ((l.map LV.b).drop n) 0 none = some (.b (l.getD n false)) := by
  simp [rdAt, h]
theorem rd_bools' (l : List Bool) (n : Nat) (h : n < l.length) : ((l.map LV.b).drop n)[0]? = some (.b (l.getD n false)) := by
  simp [h]
theorem begin_own0 (k : Nat) (A : GAt S1 S2 c th h G row gr) {t : Nat} (h1 : t = 0) (ht : t < G.n) (hn : G.n ≤ 20) (push : List Bool) (hS : SlB push S1) (hx : ¬ (G.th t).next < push.length) :
    evF cm (k + 2) 29 [.p (gr .gm) 0 0, .i t] h 0 = some (.b false, h) := by
  have q1 := A.rgm
  have q2 := A.rls
  have r1 := rowOf_lt q1
  have r2 := rowOf_lt q2
  unfold gmC at q1
  have g1 : (t : Int) < (G.n : Int) := by omega
  have g0 : ¬ (0 : Int) < (t : Int) := by omega
  have g2 : (0 : Int) ≤ (t : Int) := by omega
  have g3 : (push.length : Int) ≤ ((G.th t).next : Int) := by omega
  have b1 : t * 4 + 1 < G.n * 4 := by omega
  rw [evX_fun (m := c29) rfl _ _ _ _ A.ne0 rfl]
  simp -implicitDefEqProofs only [c29, q1, q2, g1, g0, g2, g3, b1, cl_get, cl_length, qc1, hS.len, push_cast, Nat.reduceAdd, Nat.reduceMul, Nat.reduceSub, Nat.reduceLT, Nat.reduceLeDiff, Nat.reduceEqDiff, Nat.reducePow, Int.reduceToNat, Int.reduceLT, Int.reduceLE, Int.reduceNeg, Int.reduceEq, Int.reducePow, reduceIte, reduceCtorEq, Int.reduceMul, Int.reduceAdd, Int.reduceSub, Int.reduceMod, Int.reduceDiv, Int.reduceTDiv, Int.reduceTMod, iter_s]
theorem begin_pop (k : Nat) (A : GAt S1 S2 c th h G row gr) {t : Nat} (h1 : t = 0) (ht : t < G.n) (hn : G.n ≤ 20) (push : List Bool) (hS : SlB push S1) (hx : (G.th t).next < push.length) (hp : push.getD (G.th t).next false = false) (hs : (G.th t).next < 1000) :
    evF cm (k + 2) 29 [.p (gr .gm) 0 0, .i t] h 0 = some (.b true, newH c h G gr t (opC 0 c (.f 20 []) 0 true 0 0 0)) := by
  have e9 := fun k => pop_mk k h A.ne0 0 c
  have q1 := A.rgm
  have q2 := A.rls
  have r1 := rowOf_lt q1
  have r2 := rowOf_lt q2
  unfold gmC at q1
  have g1 : (t : Int) < (G.n : Int) := by omega
  have g0 : ¬ (0 : Int) < (t : Int) := by omega
  have g3 : ¬ (push.length : Int) ≤ ((G.th t).next : Int) := by omega
  have g2 : (0 : Int) ≤ (t : Int) := by omega
  have b0 : t * 4 < G.n * 4 := by omega
  have b1 : t * 4 + 1 < G.n * 4 := by omega
  have b2 : t * 4 + 2 < G.n * 4 := by omega
  have b3 : t * 4 + 1 ≤ G.n * 4 := by omega
  have b4 : t * 4 + 2 ≤ G.n * 4 := by omega
  have b5 : t * 4 + 3 ≤ G.n * 4 := by omega
  have n1 : ∀ x, upd (qc G gr) (t * 4) x (t * 4 + 1) = .i (G.th t).next := fun x => by rw [upd_ne _ _ (by omega), qc1]
  have n2 : ∀ x y, (h ++ x).set (gr .ls) y = h.set (gr .ls) y ++ x := fun x y => List.set_append_left _ _ r2
  have n3 : ∀ x, rowOf (h ++ x) (gr .ls) 0 = some (cl (G.n * 4) (qc G gr)) := fun x => by rw [rowOf_app_lt r2]; exact q2
  have n4 : ∀ x cs, rowOf (h.set (gr .ls) ⟨0, cs⟩ ++ x) (gr .ls) 0 = some cs := fun x cs => by rw [rowOf_app_lt (by simpa using r2)]; exact rowOf_set_eq r2
  have n5 : ∀ x y z, (h.set (gr .ls) z ++ x).set (gr .ls) y = h.set (gr .ls) y ++ x := fun x y z => by rw [List.set_append_left _ _ (by simpa using r2), List.set_set]
  have w1 : IntKind.i64.wrap (((G.th t).next : Int) + 1) = ((G.th t).next : Int) + 1 := w64 _ (by omega) (by omega)
  have i1 := hS.ix _ hx
  have i2 := rd_bools push _ hx
  have i3 := rd_bools' push _ hx
  rw [hp] at i2 i3
  unfold newH
  rw [evX_fun (m := c29) rfl _ _ _ _ A.ne0 rfl, n2]
  simp -implicitDefEqProofs only [c29, q1, q2, g1, g0, g2, g3, hS.len, i1, i2, i3, e9, b0, b1, b2, b3, b4, b5, n1, n2, n3, n4, n5, w1, evX_P, evX_N, cl_get, cl_length, cl_put, qc0, qc1, qc2, qc3, push_cast, Nat.reduceAdd, Nat.reduceMul, Nat.reduceSub, Nat.reduceLT, Nat.reduceLeDiff, Nat.reduceEqDiff, Nat.reducePow, Int.reduceToNat, Int.reduceLT, Int.reduceLE, Int.reduceNeg, Int.reduceEq, Int.reducePow, reduceIte, reduceCtorEq, Int.reduceMul, Int.reduceAdd, Int.reduceSub, Int.reduceMod, Int.reduceDiv, Int.reduceTDiv, Int.reduceTMod, iter_s]
theorem begin_push (k : Nat) (A : GAt S1 S2 c th h G row gr) {t : Nat} (h1 : t = 0) (ht : t < G.n) (hn : G.n ≤ 20) (push : List Bool) (hS : SlB push S1) (hx : (G.th t).next < push.length) (hp : push.getD (G.th t).next false = true) (hs : (G.th t).next < 1000) :
    evF cm (k + 2) 29 [.p (gr .gm) 0 0, .i t] h 0 = some (.b true, newH c h G gr t (opC 0 c (.f 22 []) 0 false 0 0 (100 + (G.th t).next))) := by
  have e12 := fun k => push_mk k h A.ne0 0 c (100 + (G.th t).next)
  have q1 := A.rgm
  have q2 := A.rls
  have r1 := rowOf_lt q1
  have r2 := rowOf_lt q2
  unfold gmC at q1
  have g1 : (t : Int) < (G.n : Int) := by omega
  have g0 : ¬ (0 : Int) < (t : Int) := by omega
  have g3 : ¬ (push.length : Int) ≤ ((G.th t).next : Int) := by omega
  have g2 : (0 : Int) ≤ (t : Int) := by omega
  have b0 : t * 4 < G.n * 4 := by omega
  have b1 : t * 4 + 1 < G.n * 4 := by omega
  have b2 : t * 4 + 2 < G.n * 4 := by omega
  have b3 : t * 4 + 1 ≤ G.n * 4 := by omega
  have b4 : t * 4 + 2 ≤ G.n * 4 := by omega
  have b5 : t * 4 + 3 ≤ G.n * 4 := by omega
  have n1 : ∀ x, upd (qc G gr) (t * 4) x (t * 4 + 1) = .i (G.th t).next := fun x => by rw [upd_ne _ _ (by omega), qc1]
  have n2 : ∀ x y, (h ++ x).set (gr .ls) y = h.set (gr .ls) y ++ x := fun x y => List.set_append_left _ _ r2
  have n3 : ∀ x, rowOf (h ++ x) (gr .ls) 0 = some (cl (G.n * 4) (qc G gr)) := fun x => by rw [rowOf_app_lt r2]; exact q2
  have n4 : ∀ x cs, rowOf (h.set (gr .ls) ⟨0, cs⟩ ++ x) (gr .ls) 0 = some cs := fun x cs => by rw [rowOf_app_lt (by simpa using r2)]; exact rowOf_set_eq r2
  have n5 : ∀ x y z, (h.set (gr .ls) z ++ x).set (gr .ls) y = h.set (gr .ls) y ++ x := fun x y z => by rw [List.set_append_left _ _ (by simpa using r2), List.set_set]
  have w1 : IntKind.i64.wrap (((G.th t).next : Int) + 1) = ((G.th t).next : Int) + 1 := w64 _ (by omega) (by omega)
  have w2 : IntKind.i64.wrap (100 + ((G.th t).next : Int)) = 100 + ((G.th t).next : Int) := w64 _ (by omega) (by omega)
  have i1 := hS.ix _ hx
  have i2 := rd_bools push _ hx
  have i3 := rd_bools' push _ hx
  rw [hp] at i2 i3
  unfold newH
  rw [evX_fun (m := c29) rfl _ _ _ _ A.ne0 rfl, n2]
  simp -implicitDefEqProofs only [c29, q1, q2, g1, g0, g2, g3, hS.len, i1, i2, i3, e12, w2, b0, b1, b2, b3, b4, b5, n1, n2, n3, n4, n5, w1, evX_P, evX_N, cl_get, cl_length, cl_put, qc0, qc1, qc2, qc3, push_cast, Nat.reduceAdd, Nat.reduceMul, Nat.reduceSub, Nat.reduceLT, Nat.reduceLeDiff, Nat.reduceEqDiff, Nat.reducePow, Int.reduceToNat, Int.reduceLT, Int.reduceLE, Int.reduceNeg, Int.reduceEq, Int.reducePow, reduceIte, reduceCtorEq, Int.reduceMul, Int.reduceAdd, Int.reduceSub, Int.reduceMod, Int.reduceDiv, Int.reduceTDiv, Int.reduceTMod, iter_s]
end
end Go.Proofs.Ytjoldlaoncdcgaa
