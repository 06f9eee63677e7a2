/- Handy laws: calls in a heap of ours, branches one by one. -/
import Derived.Test.YtjgnjpbplnmdmaaEng16
namespace Go.Proofs.Ytjgnjpbplnmdmaa
open Go
/-- A branch, both ways. -/
theorem itf {α : Type} {p : Prop} [Decidable p] {x y r : α} (h1 : p → x = r) (h2 : ¬ p → y = r) : (if p then x else y) = r := by
  by_cases h : p
  · rw [if_pos h]; exact h1 h
  · rw [if_neg h]; exact h2 h
theorem ieq {x y : Int} (h : x = y) : some (LV.i x) = some (LV.i y) := by rw [h]
/-! ### calls of functions that look at rows of ours -/
def quietR (h : List Row) : Option (LV × List Row) → Option (LV × List Row)
  | some (r, _) => if flat r then some (r, h) else none
  | none => none
theorem quietR_mk {h h' : List Row} {r : LV} : quietR h (some (r, h')) = if flat r then some (r, h) else none := rfl
theorem call_Q {cal : Callee} {lim : Nat} {h : List Row} {g : FuncId} {ar cap : List LV} (hc : closedL (ar ++ cap) = false) (hf : closedL (frzL h (ar ++ cap)) = false) :
    callE cal true lim h (.f g cap) ar = quietR h (cal g (ar ++ cap) h h.length) := by
  simp only [callE, callG, callQ, hc, hf, Bool.false_eq_true, if_false, if_true]
  cases cal g (ar ++ cap) h h.length with
  | none => rfl
  | some r => rfl
theorem call_S {cal : Callee} {lim : Nat} {h : List Row} {g : FuncId} {ar cap : List LV} (hc : closedL (ar ++ cap) = false) (hf : closedL (frzL h (ar ++ cap)) = false) :
    callE cal false lim h (.f g cap) ar = cal g (ar ++ cap) h lim := by
  simp only [callE, callG, isoE, hc, hf, Bool.false_eq_true, if_false]
/-- A call of what is not written, by itself, or else in the heap as it is. -/
def impF (h : List Row) (x y : Option (LV × List Row)) : Option (LV × List Row) :=
  match x with
  | some (r, h1) => if flat r then some (r, h) else if noim r && noimR h1 then some (shL h.length r, h ++ shR h.length h1) else y
  | none => y
theorem impF_some {h h1 : List Row} {r : LV} {y : Option (LV × List Row)} : impF h (some (r, h1)) y = if flat r then some (r, h) else if noim r && noimR h1 then some (shL h.length r, h ++ shR h.length h1) else y := rfl
theorem impF_none {h : List Row} {y : Option (LV × List Row)} : impF h none y = y := rfl
theorem call_I {cal : Callee} {lim : Nat} {h : List Row} {g : FuncId} {ar cap : List LV} (hc : closedL (ar ++ cap) = false) (hf : closedL (frzL h (ar ++ cap)) = true) :
    callE cal false lim h (.f g cap) ar = impF h (cal g (frzL h (ar ++ cap)) [] 0) (cal g (ar ++ cap) h lim) := by
  simp only [callE, callG, isoE, hc, hf, Bool.false_eq_true, if_false, if_true]
  cases cal g (frzL h (ar ++ cap)) [] 0 with
  | none => rfl
  | some r =>
    obtain ⟨r, h1⟩ := r
    simp only [impF]
    by_cases h2 : flat r = true
    · simp only [h2, if_true, List.append_nil]
    · simp only [h2, Bool.false_eq_true, if_false]
      by_cases h3 : (noim r && noimR h1) = true
      · simp only [h3, if_true]
      · simp only [h3, Bool.false_eq_true, if_false]
/-- A function's call in a heap of ours. -/
theorem evH_fun {cm : FuncId → Option ME} {g : FuncId} {m : MF} (hg : cm g = some (.n m)) (k : Nat) (args : List LV) (h : List Row) (lim : Nat) (ha : args.length = m.np) :
    evF cm (k + 1) g args h lim = outE (evCode (evF cm k) k lim m.body (args ++ List.replicate (m.nt - m.np) .u, h)) m.res := by
  simp only [evF, hg]
  rw [runF_out ha]
/-! ### functions that are run in the heap of the one who calls -/
theorem evX_fun {cm : FuncId → Option ME} {g : FuncId} {m : MF} (hg : cm g = some (.s m)) (k : Nat) (args : List LV) (h : List Row) (lim : Nat) (hn : h.isEmpty = false) (ha : args.length = m.np) :
    evF cm (k + 1) g args h lim = outE (evCode (evF cm k) k lim m.body (args ++ List.replicate (m.nt - m.np) .u, h)) m.res := by
  simp only [evF, hg, hn, Bool.false_eq_true, if_false]
  rw [runF_out ha]
def isS (cm : FuncId → Option ME) (g : FuncId) : Bool := match cm g with
  | some (.s _) => true
  | _ => false
theorem evX_none {cm : FuncId → Option ME} {g : FuncId} (hs : isS cm g = true) (as : List LV) (lim : Nat) : ∀ k, evF cm k g as [] lim = none
  | 0 => rfl
  | k + 1 => by
    unfold isS at hs
    split at hs
    · rename_i m hm
      simp [evF, hm]
    · cases hs
theorem iso_X {cm : FuncId → Option ME} {k : Nat} {h : List Row} {g : FuncId} {as : List LV} (hs : isS cm g = true) : isoE (evF cm k) h g as = none := by
  have e := fun as => evX_none hs as 0 k
  simp only [isoE]
  by_cases h1 : closedL as = true
  · simp only [h1, if_true, e]
  · simp only [h1, Bool.false_eq_true, if_false]
    by_cases h2 : closedL (frzL h as) = true
    · simp only [h2, if_true, e]
    · simp only [h2, Bool.false_eq_true, if_false]
theorem call_X {cm : FuncId → Option ME} {k lim : Nat} {h : List Row} {g : FuncId} {ar cap : List LV} (hs : isS cm g = true) :
    callE (evF cm k) false lim h (.f g cap) ar = evF cm k g (ar ++ cap) h lim := by
  have e := fun as => evX_none hs as 0 k
  simp only [callE, callG, isoE, Bool.false_eq_true, if_false]
  by_cases h1 : closedL (ar ++ cap) = true
  · simp only [h1, if_true, e]
  · simp only [h1, Bool.false_eq_true, if_false]
    by_cases h2 : closedL (frzL h (ar ++ cap)) = true
    · simp only [h2, if_true, e]
    · simp only [h2, Bool.false_eq_true, if_false]
end Go.Proofs.Ytjgnjpbplnmdmaa
