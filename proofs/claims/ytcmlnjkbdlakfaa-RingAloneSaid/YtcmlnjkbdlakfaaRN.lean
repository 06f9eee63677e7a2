/- A ring's operations that are done one behind the other (RingAlone), as the evaluator answers: the rounds. -/
import Derived.Test.YtcmlnjkbdlakfaaRM
set_option linter.unusedSimpArgs false
set_option linter.unusedVariables false
set_option linter.unusedSectionVars false
set_option maxRecDepth 100000
set_option maxHeartbeats 16000000
namespace Go.Proofs.Ytcmlnjkbdlakfaa
open Go
def fgAl : List Nat := [76, 75, 4, 108, 107, 106, 105, 104, 103, 102, 101, 100, 99, 98, 97, 96, 95, 94, 93, 92, 91, 90, 89, 88, 87, 218, 217, 216, 215, 214, 213, 212, 211, 210, 209, 208, 207, 206, 205, 204, 200, 203, 202, 201, 199, 198, 197, 196, 195, 194, 193, 192, 191, 189, 190, 188, 187, 186, 185, 184, 183, 182, 181, 180, 179, 178, 177, 176, 175, 174, 173, 172, 171, 170, 169, 166, 168, 167, 165, 164, 162, 163, 161, 160, 159, 158, 157, 156, 155, 154, 153, 152, 151, 150, 149, 148, 147, 146, 145, 144, 143, 142, 141, 140, 139, 138, 137, 136, 135, 134, 133, 132, 131, 130, 129, 128, 127, 126, 125, 124, 120, 123, 122, 121, 119, 118, 117, 116, 115, 114, 113, 112, 111, 109, 110, 86, 85, 84, 83, 82, 81, 80, 79, 78, 77, 74, 73, 72, 71]
theorem tl220 {T : List LV} (h : T.length = 220) : T = [getT T 0, getT T 1, getT T 2, getT T 3, getT T 4, getT T 5, getT T 6, getT T 7, getT T 8, getT T 9, getT T 10, getT T 11, getT T 12, getT T 13, getT T 14, getT T 15, getT T 16, getT T 17, getT T 18, getT T 19, getT T 20, getT T 21, getT T 22, getT T 23, getT T 24, getT T 25, getT T 26, getT T 27, getT T 28, getT T 29, getT T 30, getT T 31, getT T 32, getT T 33, getT T 34, getT T 35, getT T 36, getT T 37, getT T 38, getT T 39, getT T 40, getT T 41, getT T 42, getT T 43, getT T 44, getT T 45, getT T 46, getT T 47, getT T 48, getT T 49, getT T 50, getT T 51, getT T 52, getT T 53, getT T 54, getT T 55, getT T 56, getT T 57, getT T 58, getT T 59, getT T 60, getT T 61, getT T 62, getT T 63, getT T 64, getT T 65, getT T 66, getT T 67, getT T 68, getT T 69, getT T 70, getT T 71, getT T 72, getT T 73, getT T 74, getT T 75, getT T 76, getT T 77, getT T 78, getT T 79, getT T 80, getT T 81, getT T 82, getT T 83, getT T 84, getT T 85, getT T 86, getT T 87, getT T 88, getT T 89, getT T 90, getT T 91, getT T 92, getT T 93, getT T 94, getT T 95, getT T 96, getT T 97, getT T 98, getT T 99, getT T 100, getT T 101, getT T 102, getT T 103, getT T 104, getT T 105, getT T 106, getT T 107, getT T 108, getT T 109, getT T 110, getT T 111, getT T 112, getT T 113, getT T 114, getT T 115, getT T 116, getT T 117, getT T 118, getT T 119, getT T 120, getT T 121, getT T 122, getT T 123, getT T 124, getT T 125, getT T 126, getT T 127, getT T 128, getT T 129, getT T 130, getT T 131, getT T 132, getT T 133, getT T 134, getT T 135, getT T 136, getT T 137, getT T 138, getT T 139, getT T 140, getT T 141, getT T 142, getT T 143, getT T 144, getT T 145, getT T 146, getT T 147, getT T 148, getT T 149, getT T 150, getT T 151, getT T 152, getT T 153, getT T 154, getT T 155, getT T 156, getT T 157, getT T 158, getT T 159, getT T 160, getT T 161, getT T 162, getT T 163, getT T 164, getT T 165, getT T 166, getT T 167, getT T 168, getT T 169, getT T 170, getT T 171, getT T 172, getT T 173, getT T 174, getT T 175, getT T 176, getT T 177, getT T 178, getT T 179, getT T 180, getT T 181, getT T 182, getT T 183, getT T 184, getT T 185, getT T 186, getT T 187, getT T 188, getT T 189, getT T 190, getT T 191, getT T 192, getT T 193, getT T 194, getT T 195, getT T 196, getT T 197, getT T 198, getT T 199, getT T 200, getT T 201, getT T 202, getT T 203, getT T 204, getT T 205, getT T 206, getT T 207, getT T 208, getT T 209, getT T 210, getT T 211, getT T 212, getT T 213, getT T 214, getT T 215, getT T 216, getT T 217, getT T 218, getT T 219] := tlT h
def SAl (S : LV) (k : Nat) (i : Nat) (s : St) : Prop := ∃ T h M row rr xr R t L stp, s = (T, h) ∧ InvR h M row k rr xr R t L stp i ∧ T.length = 220 ∧ getT T 1 = S ∧ getT T 5 = .p rr 0 0 ∧ getT T 7 = .p (row .mem) 0 0 ∧ getT T 9 = .p xr 0 0 ∧ getT T 10 = .i i
theorem xC_atom (K H D T : Int) (L : Nat → Int) (stp : Bool) : (xC K H D T L stp).all atomB = true := rfl
theorem xC_len (K H D T : Int) (L : Nat → Int) (stp : Bool) : (xC K H D T L stp).length = 13 := rfl
theorem xC_closed (K H D T : Int) (L : Nat → Int) (stp : Bool) : closedL (xC K H D T L stp) = true := rfl
theorem xC_1 (K H D T : Int) (L : Nat → Int) (stp : Bool) : (xC K H D T L stp)[1]? = some (.i H) := rfl
theorem xC_3 (K H D T : Int) (L : Nat → Int) (stp : Bool) : (xC K H D T L stp)[3]? = some (.i T) := rfl
/-- What a round leaves. -/
theorem InvR.next {h h' : List Row} {M M' : AM} {row row' : Tg → Nat} {k rr xr m r : Nat} {R R' : RG} {T T' : Int} {L L' : Nat → Int} {stp stp' : Bool} {i : Nat} {hh : List Row} {o' : RO}
    (I : InvR h M row k rr xr R T L stp i) (A : Aft hh h' M M' row row' r rr k m R' o') (hm : m ≤ 12) (ri : RInv M' R' T' L' stp') (hd : R'.head ≤ i + 1) (hT : -200 ≤ T' ∧ T' ≤ 200) (hL : ∀ j, -((i : Int) + 1) ≤ L' j ∧ L' j ≤ 100)
    (hx : rowOf hh xr 0 = some (xC k R'.head R'.dealt T' L' stp')) (hxr : xr ≠ r) : InvR h' M' row' k rr xr R' T' L' stp' (i + 1) := by
  obtain ⟨x1, x2⟩ := A.keep xr 0 _ I.nx hxr I.ne hx
  have h1 := I.ops
  have h2 := A.ops
  have h3 := I.cl
  have h4 := A.cl
  exact ⟨A.mem, A.sz, ri, by rw [h2]; push_cast; omega, by omega, hd, hT, fun j => by have := hL j; push_cast; omega, A.rg, A.nr, x1, x2, I.ne⟩
section
variable (k0 : Nat) {h : List Row} {M : AM} {row : Tg → Nat} {k rr xr : Nat} {R : RG} {t : Int} {L : Nat → Int} {stp : Bool} {i : Nat}
/-- A publishing that has no room. -/
theorem pub_full (I : InvR h M row k rr xr R t L stp i) (hk : 0 < k ∧ k ≤ 8) (hi : i ≤ 40) (n : Int) (hn : 1 ≤ n ∧ n ≤ 100) (hf : (R.k : Int) ≤ (R.head : Int) - t) :
    ∃ h' M' row' , evF cm (k0 + 140) 15 [.p h.length 0 0, .p (row .mem) 0 0, .i 0] ((h ++ [(⟨0, (RO.new .publish 0 n).cells rr⟩ : Row)] ++ [(⟨0, xC k R.head R.dealt t L stp⟩ : Row)]).set xr ⟨0, xC k R.head R.dealt t L stp⟩) 0 = some (.i (-2), h') ∧ row' .mem = row .mem ∧ rowOf h' h.length 0 = some ((RO.new .publish 0 n).cells rr) ∧ InvR h' M' row' k rr xr R t L stp (i + 1) := by
  have h2 := rowOf_lt I.x
  have h1 := I.ops
  have h3 := I.cl
  obtain ⟨M', E, ri⟩ := publish_full 0 n (by unfold small; omega) I.ri hf 12
  obtain ⟨h', row', e, A⟩ := aloneF k0 0 (I.at0 (RO.new .publish 0 n) (xC k R.head R.dealt t L stp)) I.sz hk (by omega) (by omega) (by omega) (by simp [okPc, mxPc, RO.new]) E rfl
  exact ⟨h', M', row', e, A.rm, A.op, I.next A (by omega) ri (by have := I.hd; omega) I.tb (fun j => by have := I.lb j; omega) (rowOf_set_eq (by simp; omega)) (by omega)⟩
theorem pub_fine (I : InvR h M row k rr xr R t L stp i) (hk : 0 < k ∧ k ≤ 8) (hi : i ≤ 40) (n : Int) (hn : 1 ≤ n ∧ n ≤ 100) (hf : ¬ (R.k : Int) ≤ (R.head : Int) - t) :
    ∃ h' M' row' , ∃ o' : RO, evF cm (k0 + 140) 15 [.p h.length 0 0, .p (row .mem) 0 0, .i 0] ((h ++ [(⟨0, (RO.new .publish 0 n).cells rr⟩ : Row)] ++ [(⟨0, xC k (R.head + 1 : Nat) R.dealt t (upd L (sl R.k R.head) n) stp⟩ : Row)]).set xr ⟨0, xC k (R.head + 1 : Nat) R.dealt t (upd L (sl R.k R.head) n) stp⟩) 0 = some (.i 4, h') ∧ row' .mem = row .mem ∧ rowOf h' h.length 0 = some (o'.cells rr) ∧ o'.frame = R.head ∧ InvR h' M' row' k rr xr { R with head := R.head + 1 } t (upd L (sl R.k R.head) n) stp (i + 1) := by
  have h2 := rowOf_lt I.x
  have h1 := I.ops
  have h3 := I.cl
  have h4 := I.hd
  obtain ⟨M', E, ri⟩ := publish_fine 0 n (by unfold small; omega) I.ri hf (by omega)
  obtain ⟨h', row', e, A⟩ := aloneR k0 0 (I.at0 (RO.new .publish 0 n) (xC k (R.head + 1 : Nat) R.dealt t (upd L (sl R.k R.head) n) stp)) I.sz hk (by omega) (by omega) (by omega) (by simp [okPc, mxPc, RO.new]) (by omega) (by omega) E (by simp)
  exact ⟨h', M', row', _, e, A.rm, A.op, rfl, I.next A (by omega) ri (by dsimp only; omega) I.tb (fun j => by
    have := I.lb j
    unfold upd; split <;> omega) (rowOf_set_eq (by simp; omega)) (by omega)⟩
theorem clm (I : InvR h M row k rr xr R t L stp i) (hk : 0 < k ∧ k ≤ 8) (hi : i ≤ 40) {o' : RO} {R' : RG} {m : Nat} (hm : m ≤ 12) (hm0 : 0 < m) (E : ∃ M', RunsR 1 ⟨M, R, .new .claim 0 0⟩ m ⟨M', R', o'⟩ ∧ RInv M' R' t L stp) (hw : o'.w ≠ 0) (hd : R'.head ≤ i + 1) :
    ∃ h' M' row', evF cm (k0 + 140) 15 [.p h.length 0 0, .p (row .mem) 0 0, .i 1] ((h ++ [(⟨0, (RO.new .claim 0 0).cells rr⟩ : Row)] ++ [(⟨0, xC k R'.head R'.dealt t L stp⟩ : Row)]).set xr ⟨0, xC k R'.head R'.dealt t L stp⟩) 0 = some (.i m, h') ∧ row' .mem = row .mem ∧ rowOf h' h.length 0 = some (o'.cells rr) ∧ InvR h' M' row' k rr xr R' t L stp (i + 1) := by
  have h2 := rowOf_lt I.x
  have h1 := I.ops
  have h3 := I.cl
  have h4 := I.hd
  obtain ⟨M', E, ri⟩ := E
  obtain ⟨h', row', e, A⟩ := aloneR k0 1 (I.at0 (RO.new .claim 0 0) (xC k R'.head R'.dealt t L stp)) I.sz hk (by omega) (by omega) (by omega) (by simp [okPc, mxPc, RO.new]) hm hm0 E hw
  exact ⟨h', M', row', e, A.rm, A.op, I.next A hm ri hd I.tb (fun j => by have := I.lb j; omega) (rowOf_set_eq (by simp; omega)) (by omega)⟩
theorem fin_on (I : InvR h M row k rr xr R t L stp i) (hk : 0 < k ∧ k ≤ 8) (hi : i ≤ 40) (n : Int) (hn : -100 ≤ n ∧ n ≤ 100) (hf : ¬ L (sl R.k n) = 1) :
    ∃ h' M' row' , ∃ o' : RO, evF cm (k0 + 140) 15 [.p h.length 0 0, .p (row .mem) 0 0, .i 2] ((h ++ [(⟨0, (RO.new .finish n 0).cells rr⟩ : Row)] ++ [(⟨0, xC k R.head R.dealt t (upd L (sl R.k n) (L (sl R.k n) - 1)) stp⟩ : Row)]).set xr ⟨0, xC k R.head R.dealt t (upd L (sl R.k n) (L (sl R.k n) - 1)) stp⟩) 0 = some (.i 1, h') ∧ row' .mem = row .mem ∧ rowOf h' h.length 0 = some (o'.cells rr) ∧ o'.w = 2 ∧ InvR h' M' row' k rr xr R t (upd L (sl R.k n) (L (sl R.k n) - 1)) stp (i + 1) := by
  have h2 := rowOf_lt I.x
  have h1 := I.ops
  have h3 := I.cl
  have h4 := I.hd
  obtain ⟨M', E, ri⟩ := finish_on 2 n (by unfold small; omega) I.ri (fun j => by have := I.lb j; omega) hf
  obtain ⟨h', row', e, A⟩ := aloneR k0 2 (I.at0 (RO.new .finish n 0) (xC k R.head R.dealt t (upd L (sl R.k n) (L (sl R.k n) - 1)) stp)) I.sz hk (by omega) (by omega) (by omega) (by simp [okPc, mxPc, RO.new]) (by omega) (by omega) E (by simp)
  exact ⟨h', M', row', _, e, A.rm, A.op, rfl, I.next A (by omega) ri (by omega) I.tb (fun j => by
    have := I.lb j
    have := I.lb (sl R.k n)
    unfold upd; split <;> omega) (rowOf_set_eq (by simp; omega)) (by omega)⟩
theorem fin_done (I : InvR h M row k rr xr R t L stp i) (hk : 0 < k ∧ k ≤ 8) (hi : i ≤ 40) (n : Int) (hn : -100 ≤ n ∧ n ≤ 100) (hf : L (sl R.k n) = 1) :
    ∃ h' M' row' , ∃ o' : RO, evF cm (k0 + 140) 15 [.p h.length 0 0, .p (row .mem) 0 0, .i 2] ((h ++ [(⟨0, (RO.new .finish n 0).cells rr⟩ : Row)] ++ [(⟨0, xC k R.head R.dealt (n + 1) (upd L (sl R.k n) (L (sl R.k n) - 1)) stp⟩ : Row)]).set xr ⟨0, xC k R.head R.dealt (n + 1) (upd L (sl R.k n) (L (sl R.k n) - 1)) stp⟩) 0 = some (.i 2, h') ∧ row' .mem = row .mem ∧ rowOf h' h.length 0 = some (o'.cells rr) ∧ o'.w = 1 ∧ InvR h' M' row' k rr xr R (n + 1) (upd L (sl R.k n) (L (sl R.k n) - 1)) stp (i + 1) := by
  have h2 := rowOf_lt I.x
  have h1 := I.ops
  have h3 := I.cl
  have h4 := I.hd
  obtain ⟨M', E, ri⟩ := finish_done 2 n (by omega) I.ri hf
  obtain ⟨h', row', e, A⟩ := aloneR k0 2 (I.at0 (RO.new .finish n 0) (xC k R.head R.dealt (n + 1) (upd L (sl R.k n) (L (sl R.k n) - 1)) stp)) I.sz hk (by omega) (by omega) (by omega) (by simp [okPc, mxPc, RO.new]) (by omega) (by omega) E (by simp)
  exact ⟨h', M', row', _, e, A.rm, A.op, rfl, I.next A (by omega) ri (by omega) (by omega) (fun j => by
    have := I.lb j
    have := I.lb (sl R.k n)
    unfold upd; split <;> omega) (rowOf_set_eq (by simp; omega)) (by omega)⟩
theorem awt (I : InvR h M row k rr xr R t L stp i) (hk : 0 < k ∧ k ≤ 8) (hi : i ≤ 40) :
    ∃ h' M' row' , ∃ o' : RO, evF cm (k0 + 140) 15 [.p h.length 0 0, .p (row .mem) 0 0, .i 0] (h ++ [(⟨0, (RO.new .await t 0).cells rr⟩ : Row)]) 0 = some (.i 1, h') ∧ row' .mem = row .mem ∧ rowOf h' h.length 0 = some (o'.cells rr) ∧ o'.w = 1 ∧ InvR h' M' row' k rr xr R t L stp (i + 1) := by
  have h2 := rowOf_lt I.x
  have h1 := I.ops
  have h3 := I.cl
  have h4 := I.hd
  obtain ⟨M', E, ri⟩ := await_ok1 0 I.ri
  obtain ⟨h', row', e, A⟩ := aloneR k0 0 (I.at1 (RO.new .await t 0)) I.sz hk (by omega) (by omega) (by omega) (by simp [okPc, mxPc, RO.new]) (by omega) (by omega) E (by simp)
  exact ⟨h', M', row', _, e, A.rm, A.op, rfl, I.next A (by omega) ri (by omega) I.tb (fun j => by have := I.lb j; omega) (by rw [rowOf_app_lt h2]; exact I.x) (by omega)⟩
theorem stp1 (I : InvR h M row k rr xr R t L stp i) (hk : 0 < k ∧ k ≤ 8) (hi : i ≤ 40) :
    ∃ h' M' row', evF cm (k0 + 140) 15 [.p (h.set xr ⟨0, xC k R.head R.dealt t L true⟩).length 0 0, .p (row .mem) 0 0, .i 0] (h.set xr ⟨0, xC k R.head R.dealt t L true⟩ ++ [(⟨0, (RO.new .stop 0 0).cells rr⟩ : Row)]) 0 = some (.i 1, h') ∧ row' .mem = row .mem ∧ InvR h' M' row' k rr xr R t L true (i + 1) := by
  have h2 := rowOf_lt I.x
  have h1 := I.ops
  have h3 := I.cl
  have h4 := I.hd
  have l1 : (h.set xr ⟨0, xC k R.head R.dealt t L true⟩).length = h.length := List.length_set
  obtain ⟨M', E, ri⟩ := stop_ok1 0 I.ri
  obtain ⟨h', row', e, A⟩ := aloneR k0 0 (I.at2 (RO.new .stop 0 0) (xC k R.head R.dealt t L true)) I.sz hk (by omega) (by omega) (by omega) (by simp [okPc, mxPc, RO.new]) (by omega) (by omega) E (by simp)
  exact ⟨h', M', row', e, A.rm, I.next A (by omega) ri (by omega) I.tb (fun j => by have := I.lb j; omega) (by rw [rowOf_app_lt (by omega)]; exact rowOf_set_eq h2) (by omega)⟩
end
end Go.Proofs.Ytcmlnjkbdlakfaa
