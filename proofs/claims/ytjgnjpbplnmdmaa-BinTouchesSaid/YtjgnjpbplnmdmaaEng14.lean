/- What comes in, opened by the shapes of its types. -/
import Derived.Test.YtjgnjpbplnmdmaaEng13
import Derived.ChangeArms
import Derived.OpenShut
import Derived.Deep.Slices
import Derived.DataShut
import Derived.WideShapes
set_option linter.constructorNameAsVariable false
namespace Go.Proofs.Ytjgnjpbplnmdmaa
open Go Go.RowKit

inductive Sh where
  | i (k : IntKind)
  | b
  | s
  | agg (l : List Sh)
  | sl (e : Sh)

mutual
/-- What the cells of a value of a shape are. -/
def Is : Sh → List LV → Prop
  | .i k, cs => ∃ n, cs = [.v (.int k n)] ∧ k.min ≤ n ∧ n ≤ k.max
  | .b, cs => ∃ b, cs = [.v (.bool b)]
  | .s, cs => ∃ s : ByteArray, cs = [.v (.string s)] ∧ s.size ≤ maxLen
  | .agg l, cs => IsL l cs
  | .sl e, cs => cs = [.nils] ∨ ∃ L : List (List LV), cs = [.im L.flatten L.length false] ∧ L.length ≤ maxLen ∧ ∀ x ∈ L, Is e x
def IsL : List Sh → List LV → Prop
  | [], cs => cs = []
  | s :: l, cs => ∃ a b, cs = a ++ b ∧ Is s a ∧ IsL l b
end

mutual
def hasSl : Sh → Bool
  | .agg l => hasSlL l
  | .sl _ => true
  | _ => false
def hasSlL : List Sh → Bool
  | [] => false
  | s :: l => hasSl s || hasSlL l
end

def shapeFs (P : Program) (K : TypeId → Option Sh) (tot : Nat) : Nat → List Field → Option (List Sh)
  | off, [] => if off = tot then some [] else none
  | off, f :: fs =>
    if f.offset = off ∧ off + P.cellsOf f.type ≤ tot then
      match K f.type, shapeFs P K tot (off + P.cellsOf f.type) fs with
      | some s, some l => some (s :: l)
      | _, _ => none
    else none

def shapeV (P : Program) : Nat → TypeId → Option Sh
  | 0, _ => none
  | d + 1, t => match P.underlying t with
    | some .bool => some .b
    | some (.int k) => some (.i k)
    | some .string => some .s
    | some (.struct fs) => (shapeFs P (shapeV P d) (P.cellsOf t) 0 fs.toList).map .agg
    | some (.array n e) => if P.cellsOf t = n * P.cellsOf e then (shapeV P d e).map fun s => .agg (List.replicate n s) else none
    | some (.slice e) => match shapeV P d e with
      | some s => if hasSl s then none else some (.sl s)
      | none => none
    | _ => none

theorem concL_append {C : Cx} {a b : List LV} {us vs : List Value} (h : ConcL C a us) (k : ConcL C b vs) : ConcL C (a ++ b) (us ++ vs) := by
  refine ⟨by simp [h.1, k.1], fun i c u h1 h2 => ?_⟩
  rw [List.getElem?_append] at h1 h2
  rw [← h.1] at h2
  split at h1
  · rename_i hi; rw [if_pos hi] at h2; exact h.2 i c u h1 h2
  · rename_i hi; rw [if_neg hi] at h2; exact k.2 _ c u h1 h2

theorem concL_nil (C : Cx) : ConcL C [] [] := ⟨rfl, fun i c u h => by simp at h⟩
theorem concL_one {C : Cx} {x : LV} {u : Value} (h : Conc C x u) : ConcL C [x] [u] := by
  refine ⟨rfl, fun i c v h1 h2 => ?_⟩
  match i with
  | 0 => simp at h1 h2; subst h1; subst h2; exact h
  | i + 1 => simp at h1

section
variable {H : Type} {enc : TypeId × Value → H} {P : Program} {w : World} {sp : Nat → Bool} {held : Bool}

def C0 (w : World) : Cx := ⟨[], [], fun _ => False, w⟩

theorem open_rep {s : Sh} {m : Nat} : ∀ (n : Nat) (cs : List Value), cs.length = n * m → (∀ i, i < n → ∃ lvs, Is s lvs ∧ ConcL (C0 w) lvs ((cs.drop (i * m)).take m)) →
    ∃ lvs, IsL (List.replicate n s) lvs ∧ ConcL (C0 w) lvs cs
  | 0, cs, hl, _ => ⟨[], rfl, by
    have : cs = [] := List.eq_nil_of_length_eq_zero (by simpa using hl)
    rw [this]; exact concL_nil _⟩
  | n + 1, cs, hl, h => by
    have hl' : cs.length = n * m + m := by rw [hl, Nat.succ_mul]
    obtain ⟨a, ha, ca⟩ := h 0 (by omega)
    obtain ⟨b, hb, cb⟩ := open_rep (s := s) (m := m) n (cs.drop m) (by rw [List.length_drop]; omega) (fun i hi => by
      obtain ⟨a, ha, ca⟩ := h (i + 1) (by omega)
      refine ⟨a, ha, ?_⟩
      rw [List.drop_drop, show m + i * m = (i + 1) * m by rw [Nat.succ_mul]; omega]
      exact ca)
    refine ⟨a ++ b, ⟨a, b, rfl, ha, hb⟩, ?_⟩
    have := concL_append ca cb
    simp only [Nat.zero_mul, List.drop_zero] at this
    rw [List.take_append_drop] at this
    exact this

theorem open_fs {K : TypeId → Option Sh} {tot : Nat} {cs : List Value} (hl : cs.length = tot) : ∀ (fs : List Field) (off : Nat) (l : List Sh), shapeFs P K tot off fs = some l →
    (∀ (i : Nat) f s, fs[i]? = some f → K f.type = some s → ∃ lvs, Is s lvs ∧ ConcL (C0 w) lvs ((cs.drop f.offset).take (P.cellsOf f.type))) →
    ∃ lvs, IsL l lvs ∧ ConcL (C0 w) lvs (cs.drop off)
  | [], off, l, hs, _ => by
    simp only [shapeFs] at hs
    split at hs
    · rename_i h
      simp at hs; subst hs
      refine ⟨[], rfl, ?_⟩
      rw [List.drop_eq_nil_of_le (by omega)]
      exact concL_nil _
    · simp at hs
  | f :: fs, off, l, hs, h => by
    simp only [shapeFs] at hs
    split at hs
    · rename_i ho
      split at hs
      · rename_i s l' h1 h2
        simp at hs; subst hs
        obtain ⟨a, ha, ca⟩ := h 0 f s rfl h1
        obtain ⟨b, hb, cb⟩ := open_fs hl fs _ _ h2 (fun i f s hi hk => h (i + 1) f s (by simpa using hi) hk)
        refine ⟨a ++ b, ⟨a, b, rfl, ha, hb⟩, ?_⟩
        have := concL_append ca cb
        rw [ho.1, ← List.drop_drop, List.take_append_drop] at this
        exact this
      · simp at hs
    · simp at hs

theorem hasSlL_rep {s : Sh} : ∀ {n : Nat}, hasSl s = true → 0 < n → hasSlL (List.replicate n s) = true
  | 0, _, h => by omega
  | n + 1, h, _ => by simp [List.replicate_succ, hasSlL, h]

theorem hasSlL_fs {K : TypeId → Option Sh} {tot : Nat} : ∀ (fs : List Field) (off : Nat) (l : List Sh), shapeFs P K tot off fs = some l → ∀ (i : Nat) f s, fs[i]? = some f → K f.type = some s → hasSl s = true → hasSlL l = true
  | [], off, l, _, i, f, s, hi, _, _ => by simp at hi
  | g :: fs, off, l, hs, i, f, s, hi, hk, hh => by
    simp only [shapeFs] at hs
    split at hs
    · split at hs
      · rename_i s' l' h1 h2
        simp at hs; subst hs
        match i with
        | 0 =>
          simp at hi; subst hi
          rw [h1] at hk; cases hk
          simp [hasSlL, hh]
        | i + 1 =>
          simp [hasSlL, hasSlL_fs fs _ l' h2 i f s (by simpa using hi) hk hh]
      · simp at hs
    · simp at hs

theorem open_cells {d : Nat} : ∀ {t : TypeId} {s : Sh} {fuel : Nat} {cs : List Value} {x : DataW H × List MemPlace}, shapeV P d t = some s → DataW.trod enc P w 0 sp held fuel t cs = some x → (hasSl s = true → ∀ a l c, Value.slice (some a) l c ∈ cs → a.spot = none) →
    ∃ lvs, Is s lvs ∧ ConcL (C0 w) lvs cs := by
  induction d with
  | zero => intro t s fuel cs x hs; simp [shapeV] at hs
  | succ d ih =>
    intro t s fuel cs x hs hx hsp
    simp only [shapeV] at hs
    split at hs
    · rename_i hu
      simp at hs; subst hs
      obtain ⟨b, rfl, _⟩ := DataW.trod_bool hu hx
      exact ⟨_, ⟨b, rfl⟩, concL_one (.v _)⟩
    · rename_i k hu
      simp at hs; subst hs
      obtain ⟨n, rfl, _, hwf⟩ := DataW.trod_int hu hx
      exact ⟨_, ⟨n, rfl, (Lit.wf_int_iff k n).1 hwf⟩, concL_one (.v _)⟩
    · rename_i hu
      simp at hs; subst hs
      obtain ⟨s, rfl, _, hm⟩ := DataW.trod_string hu hx
      exact ⟨_, ⟨s, rfl, hm⟩, concL_one (.v _)⟩
    · rename_i fs hu
      simp only [Option.map_eq_some_iff] at hs
      obtain ⟨l, hl, rfl⟩ := hs
      obtain ⟨xs, n, _, _, hlen, hxs, hf⟩ := DataW.trod_struct hu hx
      obtain ⟨lvs, h1, h2⟩ := open_fs (w := w) hlen fs.toList 0 l hl (fun i f s hi hk => by
        have hi' : fs[i]? = some f := by simpa using hi
        have hlt : i < fs.size := (Array.getElem?_eq_some_iff.1 hi').1
        have := hf i f hi'
        rw [List.getElem?_eq_getElem (by omega)] at this
        refine ih hk this fun hh a l' c hm => hsp ?_ a l' c (List.mem_of_mem_drop (List.mem_of_mem_take hm))
        simp only [hasSl]
        exact hasSlL_fs fs.toList 0 l hl i f s hi hk hh)
      exact ⟨lvs, h1, by simpa using h2⟩
    · rename_i n e hu
      split at hs
      · rename_i hc
        simp only [Option.map_eq_some_iff] at hs
        obtain ⟨s, hk, rfl⟩ := hs
        obtain ⟨xs, m, _, _, hlen, hxs, hf⟩ := DataW.trod_array hu hx
        exact open_rep n cs (hlen.trans hc) (fun i hi => by
          have := hf i hi
          rw [List.getElem?_eq_getElem (by omega)] at this
          refine ih hk this fun hh a l' c hm => hsp ?_ a l' c (List.mem_of_mem_drop (List.mem_of_mem_take hm))
          simp only [hasSl]
          exact hasSlL_rep hh (by omega))
      · simp at hs
    · rename_i e hu
      split at hs <;> try (simp at hs)
      rename_i s0 hk
      obtain ⟨hno, rfl⟩ := hs
      rcases Deep.open_slice hu hx with ⟨rfl, _⟩ | ⟨a, len, cap, m, n, D, Pl, rfl, _, hlc, hcm, hm, _, hel⟩
      · exact ⟨_, Or.inl rfl, concL_one (.v _)⟩
      · have hlm : len ≤ m := by rw [hm]; split <;> omega
        have hall : ∀ k, k ≤ len → ∃ L : List (List LV), L.length = k ∧ (∀ x ∈ L, Is s0 x ∧ x.length = P.cellsOf e) ∧
            ∃ us : List Value, us.length = k * P.cellsOf e ∧ ConcL (C0 w) L.flatten us ∧ ∀ j, j < us.length → w.cell? (a.add j) = us[j]? := by
          intro k
          induction k with
          | zero => intro _; exact ⟨[], rfl, by simp, [], by simp, concL_nil _, by simp⟩
          | succ k ihk =>
            intro hk'
            obtain ⟨L, h1, h2, us, h3, h4, h5⟩ := ihk (by omega)
            obtain ⟨cs', c1, c2⟩ := hel k (by omega)
            obtain ⟨g1, g2, g3⟩ := World.cells?_some c1
            obtain ⟨lvs, q1, q2⟩ := ih hk c2 (by simp [hno])
            refine ⟨L ++ [lvs], by simp [h1], ?_, us ++ cs', ?_, ?_, ?_⟩
            · intro x hx
              rcases List.mem_append.1 hx with hx | hx
              · exact h2 x hx
              · simp at hx; subst hx; exact ⟨q1, q2.1.trans g2⟩
            · rw [List.length_append, h3, g2, Nat.succ_mul]
            · rw [List.flatten_append]; simp only [List.flatten_cons, List.flatten_nil, List.append_nil]
              exact concL_append h4 q2
            · intro j hj
              rw [List.length_append, g2] at hj
              rw [List.getElem?_append]
              split
              · rename_i hlt; exact h5 j hlt
              · rename_i hge
                have hg := g3 (j - us.length) (by omega)
                rw [← hg]
                congr 1
                simp only [Addr.add] at *
                rw [h3] at hge ⊢
                by_cases hz : k * P.cellsOf e = 0
                · simp [hz]
                · rw [if_neg hz, if_neg (by omega)]
                  split
                  · rename_i h0
                    rw [show j = k * P.cellsOf e by omega]
                  · simp only [Addr.mk.injEq, true_and, and_true]; omega
        obtain ⟨L, h1, h2, us, h3, h4, h5⟩ := hall len (Nat.le_refl _)
        refine ⟨[.im L.flatten L.length false], Or.inr ⟨L, rfl, by omega, fun x hx => (h2 x hx).1⟩, concL_one ?_⟩
        obtain ⟨b, o, spot⟩ := a
        have hspot : spot = none := hsp rfl ⟨b, o, spot⟩ len cap (by simp)
        subst hspot
        rw [h1]
        have hlen : L.flatten.length = us.length := h4.1
        refine .im (fun i => us.getD i undef) hlc (by simp) (fun i x hi => ?_) (fun i x hi => ?_)
        · have hlt : i < us.length := by rw [← hlen]; exact (List.getElem?_eq_some_iff.1 hi).1
          refine ⟨fun ⟨k, o, hk⟩ => by simp [C0] at hk, fun h => h, ?_⟩
          have := h5 i hlt
          rw [List.getElem?_eq_getElem hlt] at this
          rw [List.getD_eq_getElem?_getD, List.getElem?_eq_getElem hlt]
          simp only [Option.getD_some]
          rw [← this]
          show w.cell? _ = _
          congr 1
          simp only [Addr.add]
          split
          · rename_i h0; subst h0; rfl
          · rfl
        · exact concL_get h4 i x hi
    · simp at hs
end
end Go.Proofs.Ytjgnjpbplnmdmaa
