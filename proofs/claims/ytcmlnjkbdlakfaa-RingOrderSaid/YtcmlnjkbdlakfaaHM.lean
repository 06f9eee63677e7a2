/- A memory that threads share, as it lies in a heap. -/
import Derived.Test.YtcmlnjkbdlakfaaHG
set_option linter.unusedSimpArgs false
set_option linter.unusedVariables false
namespace Go.Proofs.Ytcmlnjkbdlakfaa
open Go
theorem tlT {n : Nat} {T : List LV} (h : T.length = n) : T = (List.range n).map (getT T) := by subst h; exact tlist T
theorem set_self {h : List Row} {k : Nat} {r : Row} (e : h[k]? = some r) : h.set k r = h := by
  refine List.ext_getElem? fun i => ?_
  by_cases hi : k = i
  · subst hi; rw [List.getElem?_set_self (lt_at e), e]
  · rw [List.getElem?_set_ne hi]
theorem at_rowOf {h : List Row} {k v : Nat} {cs : List LV} (e : rowOf h k v = some cs) : h[k]? = some ⟨v, cs⟩ := by
  unfold rowOf at e
  cases hk : h[k]? with
  | none => rw [hk] at e; cases e
  | some r =>
    rw [hk] at e
    simp only at e
    split at e
    · rename_i hv
      simp only [Option.some.injEq] at e
      subst hv; subst e; rfl
    · cases e
theorem rowOf_lt {h : List Row} {k v : Nat} {cs : List LV} (e : rowOf h k v = some cs) : k < h.length := lt_at (at_rowOf e)
/-- The roles of a memory's rows. -/
inductive Tg where
  | mem | clks | atoms | plains | locks | cls
  | clk (t : Nat)
  | ak (a : Nat)
  | rd (p : Nat)
  | wr (p : Nat)
  | lk (l : Nat)
  deriving DecidableEq
def kn {α : Type} (n k : Nat) : Option α → LV
  | none => .nils
  | some _ => vs k n
def live (M : AM) : Tg → Prop
  | .clk t => t < M.n
  | .ak a => a < M.na ∧ M.ak a ≠ none
  | .rd p => p < M.np ∧ M.pl p ≠ none
  | .wr p => p < M.np ∧ M.pl p ≠ none
  | .lk l => l < M.nl ∧ M.lk l ≠ none
  | .cls => M.cl ≠ []
  | _ => True
def clCells : List (Int × Int × Int) → List LV
  | [] => []
  | c :: l => .i c.1 :: .i c.2.1 :: .i c.2.2 :: clCells l
theorem clCells_len : ∀ l, (clCells l).length = l.length * 3
  | [] => rfl
  | c :: l => by simp only [clCells, List.length_cons, clCells_len l]; omega
theorem clCells_app : ∀ l m, clCells (l ++ m) = clCells l ++ clCells m
  | [], m => rfl
  | c :: l, m => by simp [clCells, clCells_app l m]
theorem clCells_atom : ∀ l, (clCells l).all atomB = true
  | [] => rfl
  | c :: l => by simp [clCells, atomB, Value.oneCell', clCells_atom l]
theorem clCells_closed : ∀ l, closedL (clCells l) = true
  | [] => rfl
  | c :: l => by simp [clCells, closedL, closed, clCells_closed l]
def cont (M : AM) (row : Tg → Nat) : Tg → Row
  | .mem => ⟨0, [.sl (row .clks) (M.n - 1) 0 M.n 1 M.n, .sl (row .atoms) 0 0 M.na 2 M.na, .sl (row .plains) 0 0 M.np 2 M.np, .sl (row .locks) 0 0 M.nl 2 M.nl, outG 3 (row .cls) M.cl.length, .i M.ops]⟩
  | .clks => ⟨M.n - 1, (List.range M.n).map fun t => vs (row (.clk t)) M.n⟩
  | .clk t => ⟨0, vec M.n (M.clk t)⟩
  | .atoms => ⟨0, prs M.na (fun a => .i (M.av a)) (fun a => kn M.n (row (.ak a)) (M.ak a))⟩
  | .ak a => ⟨0, vec M.n ((M.ak a).getD fun _ => 0)⟩
  | .plains => ⟨0, prs M.np (fun p => kn M.n (row (.rd p)) (M.pl p)) (fun p => kn M.n (row (.wr p)) (M.pl p))⟩
  | .rd p => ⟨0, vec M.n (M.rw p).1⟩
  | .wr p => ⟨0, vec M.n (M.rw p).2⟩
  | .locks => ⟨0, prs M.nl (fun l => .i (M.lo l)) (fun l => kn M.n (row (.lk l)) (M.lk l))⟩
  | .lk l => ⟨0, vec M.n ((M.lk l).getD fun _ => 0)⟩
  | .cls => ⟨M.cl.length - 1, clCells M.cl⟩
structure MemAt (h : List Row) (M : AM) (row : Tg → Nat) : Prop where
  hat : HAt h (live M) row (cont M row)
  wf : M.WF
  n : 0 < M.n ∧ M.n ≤ 80
def own (M : AM) (row : Tg → Nat) (k : Nat) : Prop := ∃ τ, live M τ ∧ row τ = k
section
variable {h : List Row} {M : AM} {row : Tg → Nat}
theorem MemAt.rmem (H : MemAt h M row) : rowOf h (row .mem) 0 = some [.sl (row .clks) (M.n - 1) 0 M.n 1 M.n, .sl (row .atoms) 0 0 M.na 2 M.na, .sl (row .plains) 0 0 M.np 2 M.np, .sl (row .locks) 0 0 M.nl 2 M.nl, outG 3 (row .cls) M.cl.length, .i M.ops] := rowOf_at (H.hat.at' .mem trivial)
theorem MemAt.rclks (H : MemAt h M row) : rowOf h (row .clks) (M.n - 1) = some ((List.range M.n).map fun t => vs (row (.clk t)) M.n) := rowOf_at (H.hat.at' .clks trivial)
theorem MemAt.rclk (H : MemAt h M row) {t : Nat} (ht : t < M.n) : rowOf h (row (.clk t)) 0 = some (vec M.n (M.clk t)) := rowOf_at (H.hat.at' (.clk t) ht)
theorem MemAt.ratoms (H : MemAt h M row) : rowOf h (row .atoms) 0 = some (prs M.na (fun a => .i (M.av a)) (fun a => kn M.n (row (.ak a)) (M.ak a))) := rowOf_at (H.hat.at' .atoms trivial)
theorem MemAt.rak (H : MemAt h M row) {a : Nat} (ha : a < M.na) {f : Nat → Int} (hf : M.ak a = some f) : rowOf h (row (.ak a)) 0 = some (vec M.n f) := by
  have := rowOf_at (H.hat.at' (.ak a) ⟨ha, by rw [hf]; simp⟩)
  rw [hf] at this; exact this
theorem MemAt.rplains (H : MemAt h M row) : rowOf h (row .plains) 0 = some (prs M.np (fun p => kn M.n (row (.rd p)) (M.pl p)) (fun p => kn M.n (row (.wr p)) (M.pl p))) := rowOf_at (H.hat.at' .plains trivial)
theorem MemAt.rrd (H : MemAt h M row) {p : Nat} (hp : p < M.np) (hf : M.pl p ≠ none) : rowOf h (row (.rd p)) 0 = some (vec M.n (M.rw p).1) := rowOf_at (H.hat.at' (.rd p) ⟨hp, hf⟩)
theorem MemAt.rwr (H : MemAt h M row) {p : Nat} (hp : p < M.np) (hf : M.pl p ≠ none) : rowOf h (row (.wr p)) 0 = some (vec M.n (M.rw p).2) := rowOf_at (H.hat.at' (.wr p) ⟨hp, hf⟩)
theorem MemAt.rlocks (H : MemAt h M row) : rowOf h (row .locks) 0 = some (prs M.nl (fun l => .i (M.lo l)) (fun l => kn M.n (row (.lk l)) (M.lk l))) := rowOf_at (H.hat.at' .locks trivial)
theorem MemAt.rlk (H : MemAt h M row) {l : Nat} (hl : l < M.nl) {f : Nat → Int} (hf : M.lk l = some f) : rowOf h (row (.lk l)) 0 = some (vec M.n f) := by
  have := rowOf_at (H.hat.at' (.lk l) ⟨hl, by rw [hf]; simp⟩)
  rw [hf] at this; exact this
theorem MemAt.rcls (H : MemAt h M row) (hc : M.cl ≠ []) : rowOf h (row .cls) (M.cl.length - 1) = some (clCells M.cl) := rowOf_at (H.hat.at' .cls hc)
theorem MemAt.lmem (H : MemAt h M row) : row .mem < h.length := H.hat.lt (τ := .mem) trivial
theorem MemAt.own (H : MemAt h M row) {k : Nat} (hk : Go.Proofs.Ytcmlnjkbdlakfaa.own M row k) : k < h.length := by
  obtain ⟨τ, h1, rfl⟩ := hk; exact H.hat.lt h1
theorem MemAt.ne0 (H : MemAt h M row) : h.isEmpty = false := by
  have := H.lmem
  cases h with
  | nil => simp at this
  | cons _ _ => rfl
/-- The heap may grow, and turn elsewhere. -/
theorem MemAt.keep (H : MemAt h M row) {h' : List Row} (hh : ∀ k, Go.Proofs.Ytcmlnjkbdlakfaa.own M row k → h'[k]? = h[k]?) : MemAt h' M row :=
  ⟨H.hat.congr fun τ ht => ⟨ht, hh _ ⟨τ, ht, rfl⟩, rfl⟩, H.wf, H.n⟩
theorem MemAt.app (H : MemAt h M row) (t : List Row) : MemAt (h ++ t) M row := H.keep fun k hk => List.getElem?_append_left (H.own hk)
theorem clks_get {t : Nat} (ht : t < M.n) : ((List.range M.n).map fun t => vs (row (.clk t)) M.n)[t]? = some (.sl (row (.clk t)) 0 0 M.n 1 M.n) := by simp [ht, vs]
theorem tick_own {t : Nat} (k : Nat) (hk : Go.Proofs.Ytcmlnjkbdlakfaa.own (M.tick t) row k) : Go.Proofs.Ytcmlnjkbdlakfaa.own M row k := by
  obtain ⟨τ, h1, h2⟩ := hk
  exact ⟨τ, by cases τ <;> exact h1, h2⟩
end
end Go.Proofs.Ytcmlnjkbdlakfaa
