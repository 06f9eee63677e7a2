/- Codes and functions: what the evaluator comes to is what the machine's call hands back. -/
import Derived.Test.YtjgnjpbplnmdmaaEngF
namespace Go.Proofs.Ytjgnjpbplnmdmaa
open Go Go.RowKit

section
variable {P : Program} {cal : Callee} {l : List Oper} {Q : Exit → Act → World → Prop} {lim B : Nat} {h h' : List Row} {a : Act} {t t' : List LV} {C : Cx}

theorem callG_same {g : FuncId} {as : List LV} {x : LV} (hev : callG cal true lim h g as = some (x, h')) : h' = h := by
  simp only [callG, if_true] at hev
  unfold callQ at hev
  split at hev
  · split at hev
    · split at hev <;> simp at hev; exact hev.2.symm
    · simp at hev
  · split at hev
    · split at hev
      · split at hev <;> simp at hev; exact hev.2.symm
      · simp at hev
    · split at hev
      · split at hev <;> simp at hev; exact hev.2.symm
      · simp at hev

theorem quiet_same {m : MI} (hq : quietOp m.op = true) (he : evMI cal true lim m (t, h) = some (t', h')) : h' = h := by
  simp only [evMI] at he
  split at he
  · split at he
    · rename_i x h'' hev
      simp only [Option.some.injEq, Prod.mk.injEq] at he
      obtain ⟨rfl, rfl⟩ := he
      generalize hop : m.op = op at hq hev
      cases op
      case call f args =>
        simp only [evAny, evCall] at hev
        split at hev
        · exact callG_same hev
        · simp at hev
      case inv f args =>
        simp only [evAny, evInv] at hev
        split at hev
        · split at hev
          · exact callG_same hev
          · simp at hev
        · simp at hev
      case clr => simp [quietOp] at hq
      case box => simp [quietOp] at hq
      case st => simp [quietOp] at hq
      case app => simp [quietOp] at hq
      case mks => simp [quietOp] at hq
      case slc =>
        simp only [evAny, evOp] at hev
        split at hev
        · simp only [Option.map_eq_some_iff, Prod.mk.injEq] at hev
          obtain ⟨_, _, _, hh⟩ := hev
          exact hh.symm
        · simp at hev
      case ld =>
        simp only [evAny, evOp] at hev
        split at hev
        · simp only [Option.map_eq_some_iff, Prod.mk.injEq] at hev
          obtain ⟨_, _, _, hh⟩ := hev
          exact hh.symm
        · simp only [Option.map_eq_some_iff, Prod.mk.injEq] at hev
          obtain ⟨_, _, _, hh⟩ := hev
          exact hh.symm
        · simp at hev
      all_goals (
        simp only [evAny, evOp] at hev
        first
          | (simp at hev; done)
          | (simp at hev; exact hev.2.symm)
          | (simp only [Option.map_eq_some_iff, Prod.mk.injEq] at hev; obtain ⟨_, _, _, hh⟩ := hev; exact hh.symm)
          | (repeat' split at hev) <;> first
            | (simp at hev; done)
            | (simp at hev; exact hev.2.symm)
            | (simp only [Option.map_eq_some_iff, Prod.mk.injEq] at hev; obtain ⟨_, _, _, hh⟩ := hev; exact hh.symm))
    · simp at he
  · simp only [Option.some.injEq, Prod.mk.injEq] at he
    exact he.2.symm
  · simp at he

theorem cI_dst {ops : Array Oper} {o : Oper} {m : MI} (h1 : cI P ops o = some m) : m.dst = o.dst := by
  unfold cI at h1
  simp only [Option.bind_eq_bind, Option.bind_eq_some_iff] at h1
  obtain ⟨op, _, h1⟩ := h1
  split at h1
  · simp at h1; rw [← h1]
  · split at h1 <;> simp at h1; rw [← h1]

theorem gst_ghost {m : MI} {z : LV} (h : ghostZ m = some z) : gstZ m = none := by
  obtain ⟨dst, op, g⟩ := m
  simp only [ghostZ] at h
  split at h <;> try (simp at h; done)
  rfl

theorem head_trace {ops : Array Oper} : ∀ (ls : List Oper) (ms : List MI) (gs : List Bool) (t : List LV) (s : St), mapO (cI P ops) ls = some ms → gs.length = ms.length → (∀ (i : Nat) m b, ms[i]? = some m → gs[i]? = some b → (quietOp m.op || ghostB m || b) = true ∧ (b = true → (gstZ m).isSome = true)) → evOps cal true lim (List.zipWith hide gs ms) (t, h) = some s →
    ∃ xs : Nat → LV, s = (lexT ls t xs ls.length, h) ∧ ∀ (i : Nat) (o : Oper), ls[i]? = some o → ∃ m b, cI P ops o = some m ∧ ms[i]? = some m ∧ gs[i]? = some b ∧
      ((ghostZ m = none ∧ b = false ∧ quietOp m.op = true ∧ evMI cal true lim m (lexT ls t xs i, h) = some (lexT ls t xs (i + 1), h)) ∨ (∃ z, ghostZ m = some z ∧ b = false ∧ lexT ls t xs (i + 1) = putD o.dst (lexT ls t xs i) .bad) ∨
       (ghostZ m = none ∧ b = true ∧ ∃ d x sz, gstZ m = some (d, x, sz) ∧ (ev (lexT ls t xs i) x).cells.length = sz ∧ (ev (lexT ls t xs i) x).cells.all atomB = true))
  | [], ms, gs, t, s, hm, _, _, he => by
    simp [mapO] at hm
    subst hm
    simp [evOps] at he
    subst he
    exact ⟨fun _ => .bad, rfl, fun i o ho => by simp at ho⟩
  | o :: ls, ms, gs, t, s, hm, hl, hq, he => by
    unfold mapO at hm
    split at hm
    · rename_i m ms' h1 h2
      simp at hm
      subst hm
      cases gs with
      | nil => simp at hl
      | cons b gs =>
      simp only [List.zipWith_cons_cons, evOps] at he
      split at he
      · rename_i s1 hs1
        obtain ⟨t1, h1'⟩ := s1
        have hdst := cI_dst h1
        obtain ⟨q0, q1⟩ := hq 0 m b rfl rfl
        have hh : h = h1' ∧ (∃ x, t1 = putD o.dst t x) ∧ ((ghostZ m = none ∧ b = false ∧ quietOp m.op = true ∧ evMI cal true lim m (t, h) = some (t1, h)) ∨ (∃ z, ghostZ m = some z ∧ b = false ∧ t1 = putD o.dst t .bad) ∨
            (ghostZ m = none ∧ b = true ∧ ∃ d x sz, gstZ m = some (d, x, sz) ∧ (ev t x).cells.length = sz ∧ (ev t x).cells.all atomB = true)) := by
          cases hz : ghostZ m with
          | some z =>
            have hb : ghostB m = true := by simp [ghostB, hz]
            have hb0 : b = false := by
              cases b with
              | false => rfl
              | true => have := q1 rfl; rw [gst_ghost hz] at this; cases this
            simp only [hide, hb, if_true, evMI, wantB, evAny, evOp, ev, Option.some.injEq, Prod.mk.injEq] at hs1
            obtain ⟨rfl, rfl⟩ := hs1
            rw [hdst]
            exact ⟨rfl, ⟨.bad, rfl⟩, .inr (.inl ⟨z, rfl, hb0, rfl⟩)⟩
          | none =>
            have hb : ghostB m = false := by simp [ghostB, hz]
            cases b with
            | false =>
              have hqm : quietOp m.op = true := by simpa [hb] using q0
              simp only [hide, hb] at hs1
              have hs1' : evMI cal true lim m (t, h) = some (t1, h1') := by simpa using hs1
              obtain rfl := (quiet_same hqm hs1').symm
              refine ⟨rfl, ?_, .inl ⟨rfl, rfl, hqm, hs1'⟩⟩
              simp only [evMI, hdst] at hs1'
              split at hs1'
              · split at hs1'
                · rename_i x h'' _
                  simp at hs1'
                  exact ⟨x, hs1'.1.symm⟩
                · simp at hs1'
              · simp at hs1'
                exact ⟨.u, hs1'.symm⟩
              · simp at hs1'
            | true =>
              obtain ⟨⟨d, x, sz⟩, hg⟩ := Option.isSome_iff_exists.1 (q1 rfl)
              have hod : o.dst = none := (gst_run h1 hg).2.1
              simp only [hide, hb, hg, evMI, wantB, evAny, evOp, putD, Bool.false_eq_true, if_false, if_true] at hs1
              cases hf : fillP t (repC [LV.u] sz) [(0, sz, x)] with
              | none => rw [hf] at hs1; simp at hs1
              | some cs =>
                rw [hf] at hs1
                simp at hs1
                obtain ⟨rfl, rfl⟩ := hs1
                simp only [fillP] at hf
                split at hf
                · rename_i hc
                  exact ⟨rfl, ⟨.u, by rw [hod]; rfl⟩, .inr (.inr ⟨rfl, rfl, d, x, sz, hg, hc.1, hc.2.2⟩)⟩
                · simp at hf
        obtain ⟨rfl, ⟨x, rfl⟩, hstep⟩ := hh
        obtain ⟨xs, e1, e2⟩ := head_trace ls ms' gs _ s h2 (by simpa using hl) (fun i m b hm hb => hq (i + 1) m b (by simpa using hm) (by simpa using hb)) he
        have shift : ∀ i, lexT (o :: ls) t (fun | 0 => x | k + 1 => xs k) (i + 1) = lexT ls (putD o.dst t x) xs i := by
          intro i
          induction i with
          | zero => rfl
          | succ i ih =>
            show putD _ (lexT (o :: ls) t _ (i + 1)) _ = putD _ (lexT ls _ xs i) _
            rw [ih]
            rfl
        refine ⟨fun | 0 => x | k + 1 => xs k, by rw [List.length_cons, shift]; exact e1, fun i y hy => ?_⟩
        cases i with
        | zero =>
          simp at hy
          subst hy
          refine ⟨m, b, h1, rfl, rfl, ?_⟩
          rw [shift]
          exact hstep
        | succ i =>
          obtain ⟨m', b', f1, f2, f3, f4⟩ := e2 i y (by simpa using hy)
          refine ⟨m', b', f1, by simpa using f2, by simpa using f3, ?_⟩
          rw [shift, shift]
          exact f4
      · simp at he
    · simp at hm

theorem st_pois {m : MI} {ps : Pois} {t t' : List LV} {h h' : List Row} (hst : isSt m = true) (hin : stIn ps t m = true) (he : evMI cal false lim m (t, h) = some (t', h')) : poisA ps 0 h' = poisA ps 0 h := by
  obtain ⟨d, op, g⟩ := m
  cases op <;> simp [isSt] at hst
  rename_i x y n
  simp only [evMI] at he
  split at he
  · split at he
    · rename_i z h'' hev
      simp only [Option.some.injEq, Prod.mk.injEq] at he
      obtain ⟨_, rfl⟩ := he
      simp only [stIn] at hin
      simp only [evAny, evOp] at hev
      split at hev
      · rename_i k ver off hx
        rw [hx] at hin
        split at hev
        · simp at hev
        · split at hev
          · rename_i cs hrow
            split at hev
            · rename_i hcnd
              simp only [Option.some.injEq, Prod.mk.injEq] at hev
              obtain ⟨_, rfl⟩ := hev
              have hk : h[k]? = some ⟨ver, cs⟩ := by
                unfold rowOf at hrow
                split at hrow
                · rename_i r hr
                  split at hrow
                  · rename_i hv
                    simp only [Option.some.injEq] at hrow
                    rw [hr, ← hv, ← hrow]
                  · simp at hrow
                · simp at hrow
              exact poisA_set ps h k ver cs off _ (by rw [hcnd.1]; exact hcnd.2.1) hk (by rw [hcnd.1]; exact hin)
            · simp at hev
          · simp at hev
      · simp at hev
    · simp at he
  · simp only [Option.some.injEq, Prod.mk.injEq] at he
    rw [he.2]
  · simp at he

theorem evMI_put {m : MI} {o : Oper} {ops : Array Oper} {q : Bool} (hm : cI P ops o = some m) (he : evMI cal q lim m (t, h) = some (t', h')) : ∃ x, t' = putD o.dst t x := by
  rw [← cI_dst hm]
  simp only [evMI] at he
  split at he
  · split at he
    · rename_i x h'' _
      simp at he
      exact ⟨x, he.1.symm⟩
    · simp at he
  · simp at he
    exact ⟨.u, he.1.symm⟩
  · simp at he

theorem headS_trace {ops : Array Oper} {ps : Pois} {hp : List Row} : ∀ (ls : List Oper) (ms : List MI) (t : List LV) (h : List Row) (s : St), mapO (cI P ops) ls = some ms → (∀ m ∈ ms, quietOp m.op = true ∨ isSt m = true) → poisA ps 0 h = hp → evHS cal lim ps hp ms (t, h) = some s →
    ∃ (xs : Nat → LV) (hs : Nat → List Row), s = (lexT ls t xs ls.length, hs ls.length) ∧ hs 0 = h ∧ (∀ i, i ≤ ls.length → poisA ps 0 (hs i) = hp) ∧ ∀ (i : Nat) (o : Oper), ls[i]? = some o → ∃ m, cI P ops o = some m ∧ ms[i]? = some m ∧
      ((isSt m = false ∧ quietOp m.op = true ∧ evMI cal true lim m (lexT ls t xs i, hp) = some (lexT ls t xs (i + 1), hp) ∧ hs (i + 1) = hs i) ∨
       (isSt m = true ∧ evMI cal false lim m (lexT ls t xs i, hs i) = some (lexT ls t xs (i + 1), hs (i + 1))))
  | [], ms, t, h, s, hm, _, hh, he => by
    simp [mapO] at hm
    subst hm
    simp [evHS] at he
    subst he
    exact ⟨fun _ => .bad, fun _ => h, rfl, rfl, fun _ _ => hh, fun i o ho => by simp at ho⟩
  | o :: ls, ms, t, h, s, hm, hq, hh, he => by
    unfold mapO at hm
    split at hm
    · rename_i m ms' h1 h2
      simp at hm
      subst hm
      simp only [evHS] at he
      have hsrt : ∃ t1 h1', evHS cal lim ps hp ms' (t1, h1') = some s ∧ poisA ps 0 h1' = hp ∧ ((isSt m = false ∧ quietOp m.op = true ∧ evMI cal true lim m (t, hp) = some (t1, hp) ∧ h1' = h) ∨ (isSt m = true ∧ evMI cal false lim m (t, h) = some (t1, h1'))) := by
        cases hst : isSt m with
        | true =>
          rw [hst] at he
          simp only [if_true] at he
          split at he
          · rename_i hin
            split at he
            · rename_i s' hs'
              obtain ⟨t1, h1'⟩ := s'
              exact ⟨t1, h1', he, by rw [st_pois hst hin hs']; exact hh, .inr ⟨rfl, hs'⟩⟩
            · simp at he
          · simp at he
        | false =>
          rw [hst] at he
          simp only [Bool.false_eq_true, if_false] at he
          split at he
          · rename_i s' hs'
            obtain ⟨t1, h1'⟩ := s'
            have hqm : quietOp m.op = true := by
              rcases hq m (by simp) with h | h
              · exact h
              · rw [hst] at h; cases h
            obtain rfl := quiet_same hqm hs'
            exact ⟨t1, h, he, hh, .inl ⟨rfl, hqm, hs', rfl⟩⟩
          · simp at he
      obtain ⟨t1, h1', he', hh', hstep⟩ := hsrt
      have hput : ∃ x, t1 = putD o.dst t x := by
        rcases hstep with ⟨_, _, h, _⟩ | ⟨_, h⟩
        · exact evMI_put h1 h
        · exact evMI_put h1 h
      obtain ⟨x, rfl⟩ := hput
      obtain ⟨xs, hs, e1, e0, eh, e2⟩ := headS_trace ls ms' _ h1' s h2 (fun m hm => hq m (by simp [hm])) hh' he'
      have shift : ∀ i, lexT (o :: ls) t (fun | 0 => x | k + 1 => xs k) (i + 1) = lexT ls (putD o.dst t x) xs i := by
        intro i
        induction i with
        | zero => rfl
        | succ i ih =>
          show putD _ (lexT (o :: ls) t _ (i + 1)) _ = putD _ (lexT ls _ xs i) _
          rw [ih]
          rfl
      refine ⟨fun | 0 => x | k + 1 => xs k, fun | 0 => h | k + 1 => hs k, by rw [List.length_cons, shift]; exact e1, rfl, fun i hi => ?_, fun i y hy => ?_⟩
      · cases i with
        | zero => exact hh
        | succ i => exact eh i (by simpa using hi)
      · cases i with
        | zero =>
          simp at hy
          subst hy
          refine ⟨m, h1, rfl, ?_⟩
          rw [shift]
          show (_ ∧ _ ∧ _ ∧ hs 0 = h) ∨ (_ ∧ evMI cal false lim m (t, h) = some (lexT ls _ xs 0, hs 0))
          rw [e0]
          exact hstep
        | succ i =>
          obtain ⟨m', f1, f2, f4⟩ := e2 i y (by simpa using hy)
          refine ⟨m', f1, by simpa using f2, ?_⟩
          rw [shift, shift]
          exact f4
    · simp at hm

theorem ordS_spec {ops : Array Oper} {l : List MI} {n : Nat} (h : ordS ops l n = true) {i j : Nat} {a b : MI} {o : Oper} (hij : i < j) (hj : j < n) (ha : l[i]? = some a) (hb : l[j]? = some b) (ho : ops[j]? = some o) (hsa : isSt a = true) (hsb : isSt b = true) :
    ∃ e ∈ o.after, Region.binds .any e = true ∧ e.on = i := by
  unfold ordS at h
  rw [List.all_eq_true] at h
  have := h j (List.mem_range.2 hj)
  rw [List.all_eq_true] at this
  have := this i (List.mem_range.2 hij)
  simp only [ha, hb, ho, hsa, hsb, Bool.not_true, Bool.false_or] at this
  exact waitsB_spec this

/-- The new variables of a region: their blocks, and what they hold. -/
def gpairs (gz : Nat → Option LV) (fc : Nat → List LV) (bk : Nat → Nat) (n : Nat) : List (Nat × LV) := (List.range n).filterMap fun i => (gz i).map fun _ => (bk i, .agg (fc i))

def Cend (C : Cx) (gp : List (Nat × LV)) (w : World) : Cx := ⟨C.ρ ++ gp.map fun p => some (p.1, 0), C.vs ++ gp.map fun _ => 0, C.X, w⟩
def gRows (gp : List (Nat × LV)) : List Row := gp.map fun p => ⟨0, p.2.cells⟩

theorem gp_mem {gz : Nat → Option LV} {fc : Nat → List LV} {bk : Nat → Nat} {n : Nat} {p : Nat × LV} (h : p ∈ gpairs gz fc bk n) : ∃ i z, i < n ∧ gz i = some z ∧ p.2 = .agg (fc i) ∧ bk i = p.1 := by
  unfold gpairs at h
  obtain ⟨i, hi, hp⟩ := List.mem_filterMap.1 h
  obtain ⟨z, hz, rfl⟩ := Option.map_eq_some_iff.1 hp
  exact ⟨i, z, List.mem_range.1 hi, hz, rfl, rfl⟩

theorem gp_ne {ls : List Oper} {gz : Nat → Option LV} {gj : Nat → Option Nat} {fc : Nat → List LV} {bk : Nat → Nat} {n : Nat} {listed : Array Bool} {w : World} (hg : Ghosts C ls gz gj fc bk n listed a w) (hall : ∀ j, j < n → listed.getD j false = true) : (gpairs gz fc bk n).Pairwise fun x y => x.1 ≠ y.1 := by
  unfold gpairs
  refine List.Pairwise.filterMap (R := fun i j => i < j ∧ i < n ∧ j < n) (f := fun i => (gz i).map fun _ => (bk i, LV.agg (fc i))) ?_ ?_
  · rintro i j ⟨hij, hi, hj⟩ x hx y hy
    simp only [Option.map_eq_some_iff] at hx hy
    obtain ⟨z, hz, rfl⟩ := hx
    obtain ⟨z', hz', rfl⟩ := hy
    intro he
    have := hg.2 i j hi hj (by simp [hz]) (by simp [hz']) (hall i hi) (hall j hj) he
    omega
  · rw [List.pairwise_iff_getElem]
    intro i j hi hj hij
    simp at hi hj ⊢
    omega

theorem pair_idx {gp : List (Nat × LV)} (hp : gp.Pairwise fun x y => x.1 ≠ y.1) {i j : Nat} {b : Nat} (h1 : (gp.map (·.1))[i]? = some b) (h2 : (gp.map (·.1))[j]? = some b) : i = j := by
  rw [List.pairwise_iff_getElem] at hp
  simp only [List.getElem?_map, Option.map_eq_some_iff] at h1 h2
  obtain ⟨x, hx, rfl⟩ := h1
  obtain ⟨y, hy, he⟩ := h2
  obtain ⟨hi, rfl⟩ := List.getElem?_eq_some_iff.1 hx
  obtain ⟨hj, rfl⟩ := List.getElem?_eq_some_iff.1 hy
  rcases Nat.lt_trichotomy i j with h | h | h
  · exact absurd he.symm (hp i j hi hj h)
  · exact h
  · exact absurd he (hp j i hj hi h)

theorem adopt {ls : List Oper} {gz : Nat → Option LV} {gj : Nat → Option Nat} {fc : Nat → List LV} {bk : Nat → Nat} {n : Nat} {listed : Array Bool} {w : World} (hr : Rel C B h) (hb : Below C.w.heap.size C.w w) (hg : Ghosts C ls gz gj fc bk n listed a w) (hjn : ∀ i j, gj i = some j → j < n) (hall : ∀ j, j < n → listed.getD j false = true) :
    Rel (Cend C (gpairs gz fc bk n) w) B (h ++ gRows (gpairs gz fc bk n)) ∧ Le B C (Cend C (gpairs gz fc bk n) w) ∧ Fr lim C (Cend C (gpairs gz fc bk n) w) ∧ Mo (Cg C gz bk n listed w) (Cend C (gpairs gz fc bk n) w) := by
  have hmem : ∀ p ∈ gpairs gz fc bk n, C.w.heap.size ≤ p.1 ∧ p.1 < w.heap.size ∧ ∃ us ty, w.heap[p.1]? = some (.cells us ty (0, 0)) ∧ ConcL (Cg C gz bk n listed w) p.2.cells us.toList := by
    intro p hp
    obtain ⟨i, z, hi, hz, hp2, hbk⟩ := gp_mem hp
    obtain ⟨g1, g2, ⟨us, ty, g3, g4⟩, _⟩ := hg.1 i z hi hz (hall i hi)
    have hcon : gcon gj fc listed i z = fc i := by
      unfold gcon
      cases hgj : gj i with
      | none => rfl
      | some j => simp only; rw [if_pos (hall j (hjn i j hgj))]
    rw [hbk] at g1 g2 g3
    rw [hcon] at g4
    exact ⟨g1, g2, us, ty, g3, by rw [hp2]; exact g4⟩
  have hne := gp_ne hg hall
  have hrg := cg_rel hr hb hg
  generalize hgp : gpairs gz fc bk n = gp at *
  have hlen : C.ρ.length = h.length := hr.len
  have hvl : C.vs.length = h.length := by rw [hr.vs]; simp
  have hold : ∀ (k b q : Nat), C.ρ[k]? = some (some (b, q)) → b < C.w.heap.size := by
    intro k b q hk
    have hlt : k < h.length := by rw [← hr.len]; exact (List.getElem?_eq_some_iff.1 hk).1
    obtain ⟨_, us, tt, e, _⟩ := hr.row k b q h[k] hk (by simp [hlt])
    exact (Array.getElem?_eq_some_iff.1 e).1
  have hspl : ∀ (k b q : Nat), (Cend C gp w).ρ[k]? = some (some (b, q)) → (k < h.length ∧ C.ρ[k]? = some (some (b, q))) ∨ (h.length ≤ k ∧ q = 0 ∧ ∃ p ∈ gp, p.1 = b ∧ gp[k - h.length]? = some p) := by
    intro k b q hk
    have hk' : (C.ρ ++ gp.map fun p => some (p.1, 0))[k]? = some (some (b, q)) := hk
    rw [List.getElem?_append] at hk'
    split at hk'
    · rename_i hlt; exact .inl ⟨by omega, hk'⟩
    · rename_i hge
      simp only [List.getElem?_map, Option.map_eq_some_iff] at hk'
      obtain ⟨p, hp, rfl, rfl⟩ := hk'
      rw [hlen] at hp
      exact .inr ⟨by omega, rfl, p, List.mem_of_getElem? hp, rfl, hp⟩
  have hroom : ∀ b m, b < C.w.heap.size → room C.w b m → room w b m := fun b m hlt ⟨us, tt, e, hs⟩ => ⟨us, tt, by rw [hb.block b hlt]; exact e, hs⟩
  have hρ : ∀ (k : Nat) x, C.ρ[k]? = some x → (Cend C gp w).ρ[k]? = some x := fun k x hx => by
    show (C.ρ ++ _)[k]? = _
    rw [List.getElem?_append_left (List.getElem?_eq_some_iff.1 hx).1]; exact hx
  have hvs : ∀ (k : Nat) x, C.vs[k]? = some x → (Cend C gp w).vs[k]? = some x := fun k x hx => by
    show (C.vs ++ _)[k]? = _
    rw [List.getElem?_append_left (List.getElem?_eq_some_iff.1 hx).1]; exact hx
  have hown : ∀ b, (Cend C gp w).own b → C.own b ∨ (C.w.heap.size ≤ b ∧ ∃ p ∈ gp, p.1 = b) := by
    rintro b ⟨k, q, hk⟩
    rcases hspl k b q hk with ⟨_, h⟩ | ⟨_, _, p, hp, rfl, _⟩
    · exact .inl ⟨k, q, h⟩
    · exact .inr ⟨(hmem p hp).1, p, hp, rfl⟩
  have hcell : ∀ (b off : Nat) u, C.w.cell? ⟨b, off, none⟩ = some u → b < C.w.heap.size := fun b off u e3 => by
    rcases Nat.lt_or_ge b C.w.heap.size with h | h
    · exact h
    · unfold World.cell? at e3
      simp [Array.getElem?_eq_none h] at e3
  have hle : Le B C (Cend C gp w) := by
    refine ⟨rfl, fun k ver b q e1 e2 => .inl ⟨hρ _ _ e1, hvs _ _ e2, fun m hm => hroom b m (hold _ _ _ e1) hm⟩, fun k cur e => ⟨cur, hvs _ _ e, Nat.le_refl _⟩, fun b off u e1 e2 e3 => ?_, hb.mono hr.size, fun k e => hρ k _ e⟩
    have hlt := hcell b off u e3
    refine ⟨(hb.cell (p := ⟨b, off, none⟩) hlt).trans e3, fun ho => ?_⟩
    rcases hown b ho with ho | ⟨ho, _⟩
    · exact e1 ho
    · omega
  have hmo4 : Mo (Cg C gz bk n listed w) (Cend C gp w) := by
    refine ⟨fun k ver b q e1 e2 => .inl ⟨hρ _ _ e1, hvs _ _ e2, fun m hm => hm⟩, fun k cur e => ⟨cur, hvs _ _ e, Nat.le_refl _⟩, fun b off u e1 e2 e3 => ⟨e3, fun ho => ?_, fun hx => e2 (.inl hx)⟩⟩
    rcases hown b ho with ho | ⟨_, p, hp, rfl⟩
    · exact e1 ho
    · rw [← hgp] at hp
      obtain ⟨i, z, hi, hz, _, hbk⟩ := gp_mem hp
      exact e2 (.inr ⟨i, hi, hall i hi, by simp [hz], hbk⟩)
  refine ⟨⟨?_, ?_, ?_, ?_, ?_, Nat.le_trans hr.size hb.size⟩, hle, ⟨fun b hlt _ => hb.block b hlt, fun k b q e1 e2 e3 => ?_, hb.size⟩, ?_⟩
  · show (C.ρ ++ _).length = (h ++ _).length
    simp [gRows, hlen]
  · show C.vs ++ _ = (h ++ gRows gp).map Row.ver
    rw [List.map_append, ← hr.vs]
    simp [gRows]
  · intro k k' b q q' e1 e2
    rcases hspl k b q e1 with ⟨_, x1⟩ | ⟨x1, _, p, hp, hpb, x2⟩ <;> rcases hspl k' b q' e2 with ⟨_, y1⟩ | ⟨y1, _, p', hp', hpb', y2⟩
    · exact hr.inj k k' b q q' x1 y1
    · have := hold _ _ _ x1
      have := (hmem p' hp').1
      omega
    · have := hold _ _ _ y1
      have := (hmem p hp).1
      omega
    · have := pair_idx hne (i := k - h.length) (j := k' - h.length) (b := b) (by simp [x2, hpb]) (by simp [y2, hpb'])
      omega
  · intro k b q r e1 e2
    rcases hspl k b q e1 with ⟨x0, x1⟩ | ⟨x0, rfl, p, hp, rfl, x2⟩
    · rw [List.getElem?_append_left (by omega)] at e2
      obtain ⟨y1, us, tt, y2, y3, y4⟩ := hr.row k b q r x1 e2
      refine ⟨y1, us, tt, ?_, y3, fun i c hi => ?_⟩
      · show w.heap[b]? = _
        rw [hb.block b (hold _ _ _ x1)]; exact y2
      · obtain ⟨u, z1, z2⟩ := y4 i c hi
        exact ⟨u, z1, z2.mono hle⟩
    · rw [List.getElem?_append_right (by omega)] at e2
      simp only [gRows, List.getElem?_map, x2, Option.map_some, Option.some.injEq] at e2
      subst e2
      obtain ⟨m1, m2, us, ty, m3, m4⟩ := hmem p hp
      refine ⟨Nat.le_trans hr.size m1, us, ty, m3, by have := m4.1; simp at this ⊢; omega, fun i c hi => ?_⟩
      have hlt : i < us.size := by
        have h1 := (List.getElem?_eq_some_iff.1 hi).1
        have h2 := m4.1
        simp at *
        omega
      exact ⟨us[i], by simp [hlt], (m4.2 i c us[i] hi (by simp [hlt])).mo hmo4⟩
  · intro b hx
    refine ⟨Nat.lt_of_lt_of_le (hr.X b hx).1 hb.size, fun ho => ?_⟩
    rcases hown b ho with ho | ⟨ho, _⟩
    · exact (hr.X b hx).2 ho
    · have := (hr.X b hx).1; omega
  · rcases hspl k b q e2 with ⟨_, h⟩ | ⟨_, _, p, hp, rfl, _⟩
    · exact ⟨k, q, e1, h⟩
    · have := (hmem p hp).1; omega
  · exact hmo4

/-- The temporaries, where the new variables have rows. -/
def boxT (ms : List MI) : List Nat → List LV → Nat → List LV
  | [], tm, _ => tm
  | i :: is, tm, r => match (ms[i]?).bind ghostG with
    | some g => boxT ms is (setT tm g.1 (.p r 0 0)) (r + 1)
    | none => boxT ms is tm r

theorem boxT_length (ms : List MI) : ∀ (is : List Nat) (tm : List LV) (r : Nat), (boxT ms is tm r).length = tm.length
  | [], _, _ => rfl
  | i :: is, tm, r => by
    unfold boxT
    split
    · rw [boxT_length ms is, setT_length]
    · exact boxT_length ms is _ _

theorem box_eval {ms : List MI} {bk : Nat → Nat} {fc : Nat → List LV} {n : Nat} {rest : List MI} {s : St} : ∀ (is : List Nat) (tm : List LV) (hm : List Row),
    evOps cal false lim ((is.filterMap fun i => ((ms[i]?).bind ghostG).map fun g => (⟨some g.1, .box (gval ms n g.1 g.2), none⟩ : MI)) ++ rest) (tm, hm) = some s →
    (∀ i ∈ is, ∀ g, (ms[i]?).bind ghostG = some g → (ev tm (gval ms n g.1 g.2)).cells = fc i) →
    (∀ i ∈ is, ∀ i' ∈ is, ∀ g g', (ms[i]?).bind ghostG = some g → (ms[i']?).bind ghostG = some g' → gval ms n g.1 g.2 ≠ .t g'.1) →
    evOps cal false lim rest (boxT ms is tm hm.length, hm ++ gRows (is.filterMap fun i => ((ms[i]?).bind ghostG).map fun _ => (bk i, .agg (fc i)))) = some s
  | [], tm, hm, he, _, _ => by simpa [gRows, boxT] using he
  | i :: is, tm, hm, he, h1, h2 => by
    cases hmi : (ms[i]?).bind ghostG with
    | none =>
      simp only [List.filterMap_cons, hmi, Option.map_none] at he ⊢
      unfold boxT
      rw [hmi]
      exact box_eval is tm hm he (fun j hj => h1 j (by simp [hj])) (fun j hj j' hj' => h2 j (by simp [hj]) j' (by simp [hj']))
    | some g =>
      simp only [List.filterMap_cons, hmi, Option.map_some] at he ⊢
      unfold boxT
      rw [hmi]
      have hfc := h1 i (by simp) g hmi
      simp only [List.cons_append, evOps] at he
      split at he
      · rename_i s1 hs1
        simp only [evMI, wantB, evAny, evOp] at hs1
        split at hs1
        · rename_i x h'' hx
          split at hx
          · simp only [Option.some.injEq, Prod.mk.injEq] at hx hs1
            obtain ⟨rfl, rfl⟩ := hx
            obtain rfl := hs1
            rw [hfc] at he
            have ih := box_eval (bk := bk) (fc := fc) is _ _ he (fun j hj g' hg' => by
                rw [← h1 j (by simp [hj]) g' hg']
                have hne := h2 j (by simp [hj]) i (by simp) g' g hg' hmi
                cases hgv : gval ms n g'.1 g'.2 with
                | c x => rfl
                | t e =>
                  rw [hgv] at hne
                  simp only [ev, putD]
                  rw [getT_set, if_neg]
                  rintro ⟨rfl, _⟩
                  exact hne rfl) (fun j hj j' hj' => h2 j (by simp [hj]) j' (by simp [hj']))
            simpa [gRows, putD, LV.cells] using ih
          · simp at hx
        · simp at hs1
      · simp at he

theorem chk_eval {ms : List MI} {rest : List MI} {s : St} {tm : List LV} {hm : List Row} : ∀ (is : List Nat),
    evOps cal false lim ((is.filterMap fun i => ((ms[i]?).bind ghostG).map fun g => (⟨none, .fa (.t g.1) 0, none⟩ : MI)) ++ rest) (tm, hm) = some s →
    evOps cal false lim rest (tm, hm) = some s ∧ ∀ i ∈ is, ∀ g, (ms[i]?).bind ghostG = some g → getT tm g.1 ≠ .bad
  | [], he => ⟨by simpa using he, fun i hi => by simp at hi⟩
  | i :: is, he => by
    cases hmi : (ms[i]?).bind ghostG with
    | none =>
      simp only [List.filterMap_cons, hmi, Option.map_none] at he
      obtain ⟨a1, a2⟩ := chk_eval is he
      refine ⟨a1, fun j hj g hg => ?_⟩
      rcases List.mem_cons.1 hj with rfl | hj
      · rw [hmi] at hg; cases hg
      · exact a2 j hj g hg
    | some g =>
      simp only [List.filterMap_cons, hmi, Option.map_some, List.cons_append, evOps] at he
      split at he
      · rename_i s1 hs1
        simp only [evMI, wantB, evAny, evOp, ev, putD] at hs1
        have hbad : getT tm g.1 ≠ .bad := fun h => by rw [h] at hs1; simp at hs1
        have hs : s1 = (tm, hm) := by
          split at hs1
          · rename_i x h'' hx
            simp only [Option.some.injEq] at hs1
            subst hs1
            split at hx
            · simp only [Option.some.injEq, Prod.mk.injEq] at hx; rw [hx.2]
            · simp only [Option.some.injEq, Prod.mk.injEq] at hx; rw [hx.2]
            · cases hx
          · simp at hs1
        subst hs
        obtain ⟨a1, a2⟩ := chk_eval is he
        refine ⟨a1, fun j hj g' hg => ?_⟩
        rcases List.mem_cons.1 hj with rfl | hj
        · rw [hmi] at hg; cases hg; exact hbad
        · exact a2 j hj g' hg
      · simp at he

theorem boxT_rel {D : Cx} {ms : List MI} {bk : Nat → Nat} {fc : Nat → List LV} : ∀ (is : List Nat) (tm : List LV) (r : Nat), TmpR D tm a →
    D.ρ.drop r = ((is.filterMap fun i => ((ms[i]?).bind ghostG).map fun _ => (bk i, LV.agg (fc i))).map fun p => some (p.1, 0)) → D.vs.drop r = ((is.filterMap fun i => ((ms[i]?).bind ghostG).map fun _ => (bk i, LV.agg (fc i))).map fun _ => 0) →
    (∀ i ∈ is, ∀ g, (ms[i]?).bind ghostG = some g → g.1 < a.tmps.size → a.tmps.getD g.1 undef = .pointer (some ⟨bk i, 0, none⟩)) → TmpR D (boxT ms is tm r) a
  | [], tm, r, ht, _, _, _ => ht
  | i :: is, tm, r, ht, h1, h2, hd => by
    unfold boxT
    cases hmi : (ms[i]?).bind ghostG with
    | none =>
      simp only [List.filterMap_cons, hmi, Option.map_none] at h1 h2 ⊢
      exact boxT_rel is tm r ht h1 h2 (fun j hj => hd j (by simp [hj]))
    | some g =>
      simp only [List.filterMap_cons, hmi, Option.map_some] at h1 h2 ⊢
      have hρ0 : D.ρ[r]? = some (some (bk i, 0)) := by
        have := congrArg (fun l => l[0]?) h1
        simpa using this
      have hv0 : D.vs[r]? = some 0 := by
        have := congrArg (fun l => l[0]?) h2
        simpa using this
      refine boxT_rel (bk := bk) (fc := fc) is _ (r + 1) ⟨by rw [setT_length]; exact ht.1, fun j => ?_⟩ (by rw [← List.drop_drop, h1]; simp) (by rw [← List.drop_drop, h2]; simp) (fun j hj => hd j (by simp [hj]))
      rw [getT_set]
      split
      · rename_i hj
        obtain ⟨rfl, hj⟩ := hj
        rw [hd i (by simp) g hmi (by rw [← ht.1]; exact hj)]
        exact Conc.p (o := 0) hρ0 hv0
      · exact ht.2 j

theorem lexT_take (l : List Oper) (t : List LV) (xs : Nat → LV) (n : Nat) : ∀ i, i ≤ n → lexT (l.take n) t xs i = lexT l t xs i
  | 0, _ => rfl
  | i + 1, hi => by
    unfold lexT
    rw [lexT_take l t xs n i (by omega), List.getElem?_take, if_pos (by omega)]

theorem mapO_take {α β : Type} {f : α → Option β} : ∀ {l : List α} {m : List β} (n : Nat), mapO f l = some m → mapO f (l.take n) = some (m.take n) ∧ mapO f (l.drop n) = some (m.drop n)
  | [], m, n, h => by simp [mapO] at h; subst h; simp [mapO]
  | x :: l, m, 0, h => ⟨rfl, h⟩
  | x :: l, m, n + 1, h => by
    unfold mapO at h
    split at h
    · rename_i y m' h1 h2
      simp at h
      subst h
      obtain ⟨e1, e2⟩ := mapO_take n h2
      exact ⟨by simp [mapO, h1, e1], by simpa using e2⟩
    · simp at h

theorem mapO_len {α β : Type} {f : α → Option β} : ∀ {l : List α} {m : List β}, mapO f l = some m → m.length = l.length
  | [], m, h => by simp [mapO] at h; subst h; rfl
  | x :: l, m, h => by
    unfold mapO at h
    split at h
    · rename_i y m' h1 h2
      simp at h
      subst h
      simp [mapO_len h2]
    · simp at h

theorem ghostZ_G {m : MI} {z : LV} (h : ghostZ m = some z) : ∃ d, m.dst = some d ∧ ghostG m = some (d, z) := by
  obtain ⟨dst, op, g⟩ := m
  cases dst with
  | none => simp [ghostZ] at h
  | some d => exact ⟨d, rfl, by simp [ghostG, h]⟩
theorem ghostG_Z {m : MI} {g : Nat × LV} (h : ghostG m = some g) : ghostZ m = some g.2 ∧ m.dst = some g.1 := by
  unfold ghostG at h
  split at h
  · rename_i z d h1 h2
    simp at h
    subst h
    exact ⟨h1, h2⟩
  · simp at h
theorem ghostGZ (x : Option MI) {β : Type} (c : β) : (x.bind ghostZ).map (fun _ => c) = (x.bind ghostG).map (fun _ => c) := by
  cases x with
  | none => rfl
  | some m =>
    simp only [Option.bind_some]
    cases hz : ghostZ m with
    | some z => obtain ⟨d, _, h⟩ := ghostZ_G hz; rw [h]; rfl
    | none =>
      cases hg : ghostG m with
      | none => rfl
      | some g => rw [(ghostG_Z hg).1] at hz; cases hz

theorem gstB_spec {ms : List MI} {n j : Nat} (h : gstB ms n j = true) : ∃ d b sz, (ms[j]?).bind gstZ = some (d, b, sz) ∧ (∃ i, i < j ∧ ∃ m z, ms[i]? = some m ∧ m.dst = some d ∧ ghostZ m = some z ∧ z.cells.length = sz) ∧
    (∀ i, i < n → ∀ d' b' sz', (ms[i]?).bind gstZ = some (d', b', sz') → d' = d → i = j) ∧ (∀ e, b = .t e → ∀ i, i < n → ∀ m, ms[i]? = some m → m.dst = some e → i < j ∧ ghostB m = false) := by
  unfold gstB at h
  cases hz : (ms[j]?).bind gstZ with
  | none => simp [hz] at h
  | some q =>
    obtain ⟨d, b, sz⟩ := q
    simp only [hz, Bool.and_eq_true] at h
    obtain ⟨⟨h1, h2⟩, h3⟩ := h
    refine ⟨d, b, sz, rfl, ?_, ?_, ?_⟩
    · obtain ⟨i, hi, hg⟩ := List.any_eq_true.1 h1
      refine ⟨i, List.mem_range.1 hi, ?_⟩
      unfold gdefB at hg
      split at hg
      · rename_i m hm
        simp only [Bool.and_eq_true, beq_iff_eq] at hg
        obtain ⟨g1, g2⟩ := hg
        split at g2
        · rename_i z hz'
          exact ⟨m, z, hm, g1, hz', by simpa using g2⟩
        · simp at g2
      · simp at hg
    · intro i hi d' b' sz' hz' hd
      have := List.all_eq_true.1 h2 i (List.mem_range.2 hi)
      simp only [hz', Bool.or_eq_true, decide_eq_true_eq] at this
      rcases this with h | h
      · exact h
      · simp [hd] at h
    · intro e he i hi m hm hd
      subst he
      have := List.all_eq_true.1 h3 i (List.mem_range.2 hi)
      simp only [hm, hd, Bool.or_eq_true, Bool.and_eq_true, decide_eq_true_eq] at this
      rcases this with h | h
      · simp at h
      · exact ⟨h.1, by simpa using h.2⟩

theorem gfind_spec {ms : List MI} {n d j : Nat} (h : gfind ms n d = some j) : j < n ∧ gstB ms n j = true ∧ ∃ x sz, (ms[j]?).bind gstZ = some (d, x, sz) := by
  unfold gfind at h
  have h1 := List.find?_some h
  have h2 := List.mem_of_find?_eq_some h
  simp only [Bool.and_eq_true] at h1
  refine ⟨List.mem_range.1 h2, h1.1, ?_⟩
  have h3 := h1.2
  split at h3
  · rename_i d' x sz hz
    rw [hz]
    have : d' = d := by simpa using h3
    exact ⟨x, sz, by rw [this]⟩
  · simp at h3

theorem gfind_of {ms : List MI} {n j d : Nat} {x : MO} {sz : Nat} (hj : j < n) (hb : gstB ms n j = true) (hz : (ms[j]?).bind gstZ = some (d, x, sz)) : gfind ms n d = some j := by
  cases hf : gfind ms n d with
  | none =>
    unfold gfind at hf
    have := List.find?_eq_none.1 hf j (List.mem_range.2 hj)
    simp [hb, hz] at this
  | some q =>
    obtain ⟨q1, q2, x', sz', q3⟩ := gfind_spec hf
    obtain ⟨d0, b0, s0, r1, _, r2, _⟩ := gstB_spec hb
    rw [hz] at r1
    simp only [Option.some.injEq, Prod.mk.injEq] at r1
    rw [r2 q q1 d x' sz' q3 r1.1]

theorem lexT_stable (l : List Oper) (t : List LV) (xs : Nat → LV) (e i : Nat) : ∀ n, i ≤ n → (∀ (j : Nat) (o : Oper), i ≤ j → j < n → l[j]? = some o → o.dst ≠ some e) → getT (lexT l t xs n) e = getT (lexT l t xs i) e
  | 0, hi, _ => by rw [show i = 0 by omega]
  | n + 1, hi, h => by
    by_cases hin : i = n + 1
    · rw [hin]
    · have ih := lexT_stable l t xs e i n (by omega) (fun j o h1 h2 => h j o h1 (by omega))
      rw [← ih]
      show getT (putD _ _ _) e = _
      rw [putD_get, if_neg]
      rintro ⟨hd, _⟩
      cases ho : l[n]? with
      | none => simp [ho] at hd
      | some o => simp [ho] at hd; exact h n o (by omega) (by omega) ho hd

/-- A region. -/
theorem region_sound (hcal : CalOK P cal) (hmo : P.follows .mixedOrders = true) {id : Nat} {ops : Array Oper} {draw : Bool} {mc : MC} {k : Nat} {s s' : St} {e : Ex} (hc : cRg P ops draw = some mc) (he : evCode cal k lim mc s = some (e, s'))
    (ht : TmpR C s.1 a) (hr : Rel C B s.2) (hd : a.defers = []) (hQ : ∀ a' w', StPost B lim C s' a' w' → Q .normal a' w') : (Code.region id ops draw).wp P Q a C.w ∧ e = .nrm := by
  obtain ⟨t, h⟩ := s
  simp only [cRg, Option.bind_eq_bind, Option.bind_eq_some_iff] at hc
  obtain ⟨ms, hms, hc⟩ := hc
  have hops : ops = ops.toList.toArray := by simp
  cases draw with
  | false =>
    simp only [Bool.false_eq_true, if_false, Option.pure_def, Option.some.injEq] at hc
    subst hc
    simp only [evCode, evOps] at he
    split at he
    · rename_i s2 hs2
      simp only [Option.some.injEq, Prod.mk.injEq] at he
      obtain ⟨rfl, rfl⟩ := he
      refine ⟨?_, rfl⟩
      exact wp_region_list (ops_list hcal _ ms t h a C s2 hms hs2 ht hr hd hQ)
    · simp at he
  | true =>
    simp only [if_true] at hc
    split at hc
    · rename_i hcond
      simp only [Bool.and_eq_true, List.all_eq_true, decide_eq_true_eq] at hcond
      obtain ⟨⟨hfl, hqt⟩, hle⟩ := hcond
      simp only [Option.pure_def, Option.some.injEq] at hc
      subst hc
      simp only [evCode] at he
      split at he
      · rename_i s1 hs1
        split at he
        · rename_i s2 hs2
          simp only [Option.some.injEq, Prod.mk.injEq] at he
          obtain ⟨rfl, rfl⟩ := he
          refine ⟨?_, rfl⟩
          generalize hn : headN ops = n at *
          have hmlen : ms.length = ops.toList.length := mapO_len hms
          have hnlen : n ≤ ms.length := by rw [hmlen]; simpa using hle
          obtain ⟨m1, m2⟩ := mapO_take n hms
          have hgs : ∀ i b, (gstL ms n)[i]? = some b → i < n ∧ b = gstB ms n i := by
            intro i b hb
            have hi : i < n := by have := (List.getElem?_eq_some_iff.1 hb).1; simpa [gstL] using this
            refine ⟨hi, ?_⟩
            simp [gstL, hi] at hb
            exact hb.symm
          obtain ⟨xs, e1, e2⟩ := head_trace _ _ (gstL ms n) _ _ m1 (by simp [gstL]; omega) (fun i m b hm hb => by
            obtain ⟨hi, rfl⟩ := hgs i b hb
            rw [List.getElem?_take, if_pos hi] at hm
            have := hqt i (List.mem_range.2 hi)
            rw [hm] at this
            refine ⟨this, fun hb => ?_⟩
            obtain ⟨d, x, sz, hz, _⟩ := gstB_spec hb
            rw [hm] at hz
            exact Option.isSome_iff_exists.2 ⟨_, hz⟩) hs1
          subst e1
          have hlen : (ops.toList.take n).length = n := by simp; omega
          rw [hlen, lexT_take _ _ _ _ _ (Nat.le_refl _)] at hs2
          have F : ∀ (i : Nat) (o : Oper), i < n → ops.toList[i]? = some o → ∃ m, cI P ops o = some m ∧ ms[i]? = some m ∧
              ((ghostZ m = none ∧ gstB ms n i = false ∧ quietOp m.op = true ∧ evMI cal true lim m (lexT ops.toList t xs i, h) = some (lexT ops.toList t xs (i + 1), h)) ∨ (∃ z, ghostZ m = some z ∧ gstB ms n i = false ∧ lexT ops.toList t xs (i + 1) = putD o.dst (lexT ops.toList t xs i) .bad) ∨
               (ghostZ m = none ∧ gstB ms n i = true ∧ ∃ d x sz, gstZ m = some (d, x, sz) ∧ (ev (lexT ops.toList t xs i) x).cells.length = sz ∧ (ev (lexT ops.toList t xs i) x).cells.all atomB = true)) := by
            intro i o hi ho
            obtain ⟨m, b, f1, f2, f3, f4⟩ := e2 i o (by rw [List.getElem?_take, if_pos hi]; exact ho)
            obtain ⟨_, rfl⟩ := hgs i b f3
            rw [List.getElem?_take, if_pos hi] at f2
            rw [lexT_take _ _ _ _ _ (by omega), lexT_take _ _ _ _ _ (by omega)] at f4
            exact ⟨m, f1, f2, f4⟩
          have G : ∀ (i : Nat) m, i < n → ms[i]? = some m → ∃ o, ops.toList[i]? = some o ∧ cI P ops o = some m ∧ m.dst = o.dst := by
            intro i m hi hm
            have hil : i < ops.toList.length := by rw [← hmlen]; omega
            obtain ⟨m', f1, f2, _⟩ := F i ops.toList[i] hi (List.getElem?_eq_getElem hil)
            rw [hm] at f2
            cases f2
            exact ⟨_, List.getElem?_eq_getElem hil, f1, cI_dst f1⟩
          have hflow : Flow ops.toList.toArray n := by rw [hops] at hfl; exact flow_of hfl
          have getl : ∀ {i : Nat} {o : Oper}, ops.toList.toArray[i]? = some o ↔ ops.toList[i]? = some o := by intro i o; simp
          have uq : ∀ (i j : Nat) (m m' : MI) (d : Nat), i < n → j < n → ms[i]? = some m → ms[j]? = some m' → m.dst = some d → m'.dst = some d → i = j := by
            intro i j m m' d hi hj hm hm' hd hd'
            obtain ⟨o, g1, _, g2⟩ := G i m hi hm
            obtain ⟨o', g3, _, g4⟩ := G j m' hj hm'
            exact hflow.uniq i j o o' d hi hj (getl.2 g1) (getl.2 g3) (by rw [← g2]; exact hd) (by rw [← g4]; exact hd')
          have gG : ∀ (i : Nat) (g : Nat × LV), (ms[i]?).bind ghostG = some g → ∃ m, ms[i]? = some m ∧ ghostZ m = some g.2 ∧ m.dst = some g.1 := by
            intro i g hg
            obtain ⟨m, h1, h2⟩ := Option.bind_eq_some_iff.1 hg
            exact ⟨m, h1, ghostG_Z h2⟩
          -- what the new variables hold at the end
          let fc : Nat → List LV := fun i => match (ms[i]?).bind ghostG with | some g => (ev (lexT ops.toList t xs n) (gval ms n g.1 g.2)).cells | none => []
          have hfc : ∀ (i : Nat) (g : Nat × LV), (ms[i]?).bind ghostG = some g → (ev (lexT ops.toList t xs n) (gval ms n g.1 g.2)).cells = fc i := fun i g hg => by simp only [fc, hg]
          have hne : ∀ i ∈ List.range n, ∀ i' ∈ List.range n, ∀ (g g' : Nat × LV), (ms[i]?).bind ghostG = some g → (ms[i']?).bind ghostG = some g' → gval ms n g.1 g.2 ≠ .t g'.1 := by
            intro i _ i' hi' g g' hg hg' he
            unfold gval at he
            cases hf : gfind ms n g.1 with
            | none => rw [hf] at he; cases he
            | some j =>
              obtain ⟨j1, j2, x, sz, j3⟩ := gfind_spec hf
              rw [hf] at he
              simp only [j3] at he
              obtain ⟨d0, b0, s0, r1, _, _, r4⟩ := gstB_spec j2
              rw [j3] at r1
              simp only [Option.some.injEq, Prod.mk.injEq] at r1
              obtain ⟨m', a1, a2, a3⟩ := gG i' g' hg'
              have := (r4 g'.1 (by rw [← r1.2.1]; exact he) i' (List.mem_range.1 hi') m' a1 a3).2
              simp [ghostB, a2] at this
          have hbx : ∀ bk : Nat → Nat, evOps cal false lim (((List.range n).filterMap fun i => ((ms[i]?).bind ghostG).map fun g => (⟨none, .fa (.t g.1) 0, none⟩ : MI)) ++ ms.drop n)
              (boxT ms (List.range n) (lexT ops.toList t xs n) h.length, h ++ gRows ((List.range n).filterMap fun i => ((ms[i]?).bind ghostG).map fun _ => (bk i, .agg (fc i)))) = some s2 := fun bk =>
            box_eval (bk := bk) (fc := fc) (List.range n) _ _ (by unfold ghosts at hs2; rw [List.append_assoc] at hs2; exact hs2) (fun i _ g hg => hfc i g hg) hne
          have hdl : ∀ (i : Nat), i < n → ∀ (g : Nat × LV), (ms[i]?).bind ghostG = some g → g.1 < t.length := by
            intro i hi g hg
            have := (chk_eval _ (hbx fun _ => 0)).2 i (List.mem_range.2 hi) g hg
            rcases Nat.lt_or_ge g.1 t.length with h | h
            · exact h
            · exact absurd (getT_out _ _ (by rw [boxT_length, lexT_length]; exact h)) this
          let gj : Nat → Option Nat := fun i => if i < n then ((ms[i]?).bind ghostG).bind fun g => gfind ms n g.1 else none
          have gJ : ∀ (k j : Nat), gj k = some j → k < n ∧ ∃ g, (ms[k]?).bind ghostG = some g ∧ gfind ms n g.1 = some j := by
            intro k j hj
            by_cases hk : k < n
            · simp only [gj, hk, if_true] at hj
              obtain ⟨g, hg, hf⟩ := Option.bind_eq_some_iff.1 hj
              exact ⟨hk, g, hg, hf⟩
            · simp only [gj, hk, if_false] at hj
              cases hj
          have gJ' : ∀ (k : Nat) (g : Nat × LV), k < n → (ms[k]?).bind ghostG = some g → gj k = gfind ms n g.1 := by
            intro k g hk hg
            simp only [gj, hk, if_true, hg, Option.bind_some]
          have gJst : ∀ (k j : Nat) (g : Nat × LV), k < n → (ms[k]?).bind ghostG = some g → gfind ms n g.1 = some j → k < j ∧ j < n ∧ ∃ mj x sz, ms[j]? = some mj ∧ gstZ mj = some (g.1, x, sz) := by
            intro k j g hk hg hf
            obtain ⟨j1, j2, x, sz, j3⟩ := gfind_spec hf
            obtain ⟨d0, b0, s0, r1, ⟨i', hi', mk, zk, r2, r3, r4, r5⟩, _, _⟩ := gstB_spec j2
            rw [j3] at r1
            simp only [Option.some.injEq, Prod.mk.injEq] at r1
            obtain ⟨mg, a1, a2, a3⟩ := gG k g hg
            obtain ⟨mj, b1, b2⟩ := Option.bind_eq_some_iff.1 j3
            have hk' : i' = k := uq i' k mk mg g.1 (by omega) hk r2 a1 (by rw [r3, r1.1]) a3
            exact ⟨by omega, j1, mj, x, sz, b1, b2⟩
          rw [hops]
          refine wp_region_any hmo ?_
          have := head_any (l := ops.toList) (Q := Q) (A := a) (xs := xs) (gz := fun i => (ms[i]?).bind ghostZ) (gj := gj) (fc := fc) hcal (by simpa using hle) hflow hr ht.1 (fun i o hi ho => by
              obtain ⟨m, f1, f2, f3⟩ := F i o hi ho
              have hno : gstB ms n i = false → ∀ k, gj k ≠ some i := by
                intro hb k hk
                obtain ⟨_, g, _, hg2⟩ := gJ k i hk
                have := (gfind_spec hg2).2.1
                rw [hb] at this
                cases this
              refine ⟨m, by rw [← hops]; exact f1, ?_⟩
              simp only [f2, Option.bind_some]
              rcases f3 with ⟨z1, z2, z3, z4⟩ | ⟨z, z1, z2, z3⟩ | ⟨z1, z2, d, x, sz, z3, z4, z5⟩
              · exact .inl ⟨z1, hno z2, z3, z4⟩
              · exact .inr (.inl ⟨z, z1, hno z2, z1, z3⟩)
              · refine .inr (.inr ⟨z1, ?_⟩)
                obtain ⟨d0, b0, s0, r1, ⟨k, hk, mk, zk, r2, r3, r4, r5⟩, r6, r7⟩ := gstB_spec z2
                rw [f2] at r1
                simp only [Option.bind_some] at r1
                rw [z3] at r1
                simp only [Option.some.injEq, Prod.mk.injEq] at r1
                obtain ⟨rfl, rfl, rfl⟩ := r1
                have hkn : k < n := by omega
                obtain ⟨d', y1, y2⟩ := ghostZ_G r4
                rw [r3] at y1
                cases y1
                have hgk : (ms[k]?).bind ghostG = some (d, zk) := by rw [r2]; exact y2
                have hfi : gfind ms n d = some i := gfind_of hi z2 (by rw [f2]; exact z3)
                obtain ⟨ok, x1, _, x3⟩ := G k mk hkn r2
                refine ⟨k, zk, d, x, sz, hkn, by rw [r2]; exact r4, by rw [gJ' k _ hkn hgk]; exact hfi, z3, ⟨ok, x1, by rw [← x3]; exact r3⟩, hdl k hkn _ hgk, z4, z5, r5, ?_⟩
                rw [← hfc k _ hgk]
                have hgv : gval ms n d zk = x := by unfold gval; rw [hfi]; simp only [f2, Option.bind_some, z3]
                rw [hgv]
                cases x with
                | c x => rfl
                | t e =>
                  simp only [ev]
                  rw [lexT_stable ops.toList t xs e i n (by omega) fun j oj hj1 hj2 hoj hod => by
                    obtain ⟨mj, w1, w2, _⟩ := F j oj hj2 hoj
                    have := (r7 e rfl j hj2 mj w2 (by rw [cI_dst w1]; exact hod)).1
                    omega])
            (fun i z hin hz hj => by
              obtain ⟨m, y1, y2⟩ := Option.bind_eq_some_iff.1 hz
              obtain ⟨d, y3, y4⟩ := ghostZ_G y2
              have hg : (ms[i]?).bind ghostG = some (d, z) := by rw [y1]; exact y4
              rw [← hfc i _ hg]
              rw [gJ' i _ hin hg] at hj
              unfold gval
              rw [hj]
              rfl)
            (fun k j hj => by
              obtain ⟨hkn, g, hg, hf⟩ := gJ k j hj
              obtain ⟨s1, s2, mj, x, sz, s3, s4⟩ := gJst k j g hkn hg hf
              obtain ⟨mg, a1, a2, a3⟩ := gG k g hg
              obtain ⟨oj, c1, c2, _⟩ := G j mj s2 s3
              obtain ⟨ok, c3, _, c4⟩ := G k mg hkn a1
              obtain ⟨_, _, ty, y, c5, _, _⟩ := gst_run c2 s4
              refine ⟨s1, s2, oj, ok, g.1, c1, c3, by rw [← c4]; exact a3, ?_⟩
              exact List.mem_append_left _ (List.mem_filterMap.2 ⟨.tmp g.1, by rw [c5]; simp [Op.operands], rfl⟩))
            (fun k k' j hj hj' => by
              obtain ⟨hkn, g, hg, hf⟩ := gJ k j hj
              obtain ⟨hkn', g', hg', hf'⟩ := gJ k' j hj'
              obtain ⟨_, _, mj, x, sz, s3, s4⟩ := gJst k j g hkn hg hf
              obtain ⟨_, _, mj', x', sz', s3', s4'⟩ := gJst k' j g' hkn' hg' hf'
              rw [s3] at s3'
              cases s3'
              rw [s4] at s4'
              simp only [Option.some.injEq, Prod.mk.injEq] at s4'
              obtain ⟨mg, a1, a2, a3⟩ := gG k g hg
              obtain ⟨mg', b1, b2, b3⟩ := gG k' g' hg'
              exact uq k k' mg mg' g.1 hkn hkn' a1 b1 a3 (by rw [b3, s4'.1]))
            (fun i o x hi ho hx d hd' hlt => by
              have h1 : lexT ops.toList t xs (i + 1) = putD o.dst (lexT ops.toList t xs i) (xs i) := by
                show putD _ _ _ = _
                rw [ho]; rfl
              rw [h1] at hx
              have h2 := congrArg (fun z => getT z d) hx
              simp only [putD_get, lexT_length, hd', hlt, and_self, if_true] at h2
              exact h2)
            (fun a' w' bk listed hb hall ht' hg hd' => by
              obtain ⟨r1, r2, r3, r4⟩ := adopt (lim := lim) hr hb hg (fun i j hj => by
                obtain ⟨_, g, _, hf⟩ := gJ i j hj
                exact (gfind_spec hf).1) hall
              have hgp : gpairs (fun i => (ms[i]?).bind ghostZ) fc bk n = (List.range n).filterMap fun i => ((ms[i]?).bind ghostG).map fun _ => (bk i, LV.agg (fc i)) := by
                unfold gpairs
                congr 1
                funext i
                exact ghostGZ _ _
              rw [hgp] at r1 r2 r3 r4
              have ht2 : TmpR (Cend C ((List.range n).filterMap fun i => ((ms[i]?).bind ghostG).map fun _ => (bk i, LV.agg (fc i))) w') (lexT ops.toList t xs n) a' := ⟨ht'.1, fun i => (ht'.2 i).mo r4⟩
              have q1 := boxT_rel (bk := bk) (fc := fc) (ms := ms) (List.range n) _ h.length ht2
                (by show (C.ρ ++ _).drop h.length = _; rw [← hr.len, List.drop_left])
                (by show (C.vs ++ _).drop h.length = _; rw [show h.length = C.vs.length by rw [hr.vs]; simp, List.drop_left])
                (fun i hi g hgi hlt => by
                  have hin : i < n := List.mem_range.1 hi
                  obtain ⟨m, a1, a2, a3⟩ := gG i g hgi
                  obtain ⟨o, c1, _, c3⟩ := G i m hin a1
                  exact (hg.1 i g.2 hin (by show (ms[i]?).bind ghostZ = _; rw [a1]; exact a2) (hall i hin)).2.2.2 o g.1 c1 (by rw [← c3]; exact a3) hlt)
              exact ops_list hcal _ _ _ _ a' _ s2 (by rw [← hops]; exact m2) (chk_eval _ (hbx bk)).1 q1 r1 (by rw [hd', hd]) fun a2 w2 hst => hQ a2 w2 (hst.trans r2 r3))
            ops.toList.toArray.size (Array.replicate ops.toList.toArray.size false) (fun _ => 0) a { C.w with drawn := C.w.drawn + 1 } ?_ ?_
          · exact this
          · simp [left]
          · have gf : ∀ (m j : Nat), (Array.replicate m false).getD j false = false := fun m j => by
              rcases Nat.lt_or_ge j m with h | h <;> simp [h]
            have hbd : Below C.w.heap.size C.w { C.w with drawn := C.w.drawn + 1 } := (Below.refl _ _).drew
            refine ⟨by simp, fun j o _ hl => ?_, fun d hd1 hdl => ?_, rfl, rfl, hbd, fun i o d _ _ _ hl => ?_, fun d _ => Conc.mo (C := C) (C' := Cg C (fun i => (ms[i]?).bind ghostZ) (fun _ => 0) n (Array.replicate ops.toList.toArray.size false) { C.w with drawn := C.w.drawn + 1 }) (mo_grow rfl rfl hbd ?_) (ht.2 d), ⟨fun i z _ _ hl => ?_, fun i j _ _ _ _ hl => ?_⟩⟩
            · rw [gf] at hl; cases hl
            · simp at hdl; simp [hdl]
            · rw [gf] at hl; cases hl
            · rintro b _ (hx | ⟨i, _, hl, _⟩)
              · exact hx
              · rw [gf] at hl; cases hl
            · rw [gf] at hl; cases hl
            · rw [gf] at hl; cases hl
        · simp at he
      · simp at he
    · split at hc
      · rename_i hcond
        simp only [Bool.and_eq_true, List.all_eq_true, decide_eq_true_eq, Bool.or_eq_true] at hcond
        obtain ⟨⟨⟨hfl, hqt⟩, hos⟩, hle⟩ := hcond
        simp only [Option.pure_def, Option.some.injEq] at hc
        subst hc
        simp only [evCode] at he
        split at he
        · rename_i s1 hs1
          split at he
          · rename_i s2 hs2
            simp only [Option.some.injEq, Prod.mk.injEq] at he
            obtain ⟨rfl, rfl⟩ := he
            refine ⟨?_, rfl⟩
            generalize hn : headN ops = n at *
            generalize rowsP (lookP t (basesT (ms.take n))) = ps at hs1
            have hmlen : ms.length = ops.toList.length := mapO_len hms
            have hnlen : n ≤ ops.toList.length := by simpa using hle
            obtain ⟨m1, m2⟩ := mapO_take n hms
            obtain ⟨xs, hs, e1, e0, eh, e2⟩ := headS_trace _ _ _ _ _ m1 hqt rfl hs1
            subst e1
            have hlen : (ops.toList.take n).length = n := by simp; omega
            rw [hlen] at eh
            simp only [hlen, lexT_take _ _ _ _ _ (Nat.le_refl _)] at hs2
            have hflow : Flow ops.toList.toArray n := by rw [hops] at hfl; exact flow_of hfl
            have getl : ∀ {i : Nat} {o : Oper}, ops.toList.toArray[i]? = some o ↔ ops.toList[i]? = some o := by intro i o; simp
            have F : ∀ (i : Nat) (o : Oper), i < n → ops.toList[i]? = some o → ∃ m, cI P ops o = some m ∧ ms[i]? = some m ∧
                ((isSt m = false ∧ quietOp m.op = true ∧ evMI cal true lim m (lexT ops.toList t xs i, poisA ps 0 h) = some (lexT ops.toList t xs (i + 1), poisA ps 0 h) ∧ hs (i + 1) = hs i) ∨
                 (isSt m = true ∧ evMI cal false lim m (lexT ops.toList t xs i, hs i) = some (lexT ops.toList t xs (i + 1), hs (i + 1)))) := by
              intro i o hi ho
              obtain ⟨m, f1, f2, f4⟩ := e2 i o (by rw [List.getElem?_take, if_pos hi]; exact ho)
              rw [List.getElem?_take, if_pos hi] at f2
              rw [lexT_take _ _ _ _ _ (by omega), lexT_take _ _ _ _ _ (by omega)] at f4
              exact ⟨m, f1, f2, f4⟩
            let stp : Nat → Bool := fun i => match ms[i]? with | some m => isSt m | none => false
            have hstp : ∀ (i : Nat) m, ms[i]? = some m → stp i = isSt m := fun i m hm => by simp only [stp, hm]
            rw [hops]
            refine wp_region_any hmo ?_
            have := head_st (l := ops.toList) (Q := Q) (A := a) (C := C) (B := B) (lim := lim) (t := t) (xs := xs) (hs := hs) (hp := poisA ps 0 h) (stp := stp) hcal (n := n) hnlen hflow ht.1
              (fun i o hi ho => by
                obtain ⟨m, f1, f2, f4⟩ := F i o hi ho
                refine ⟨m, by rw [← hops]; exact f1, ?_⟩
                rw [hstp i m f2]
                exact f4)
              (fun D i hi hrel => by rw [← eh i hi]; exact hrel.pois ps)
              (fun i j o hij hj hsi hsj ho => by
                have hjl : j < ms.length := by omega
                have hil : i < ms.length := by omega
                have ha := List.getElem?_eq_getElem hil
                have hb := List.getElem?_eq_getElem hjl
                rw [hstp i _ ha] at hsi
                rw [hstp j _ hb] at hsj
                exact ordS_spec hos hij hj ha hb (by rw [← Array.getElem?_toList]; exact ho) hsi hsj)
              (fun i o x hi ho hx d hd' hlt => by
                have h1 : lexT ops.toList t xs (i + 1) = putD o.dst (lexT ops.toList t xs i) (xs i) := by
                  show putD _ _ _ = _
                  rw [ho]; rfl
                rw [h1] at hx
                have h2 := congrArg (fun z => getT z d) hx
                simp only [putD_get, lexT_length, hd', hlt, and_self, if_true] at h2
                exact h2)
              (fun a' D q1 q2 q3 q4 q5 => ops_list hcal _ _ _ _ a' D s2 (by rw [← hops]; exact m2) hs2 q3 q4 (by rw [q5, hd]) fun a2 w2 hst => hQ a2 w2 (hst.trans q1 q2))
              ops.toList.toArray.size (Array.replicate ops.toList.toArray.size false) a { C with w := { C.w with drawn := C.w.drawn + 1 } } ?_ ?_
            · exact this
            · simp [left]
            · have gf : ∀ (m j : Nat), (Array.replicate m false).getD j false = false := fun m j => by
                rcases Nat.lt_or_ge j m with h | h <;> simp [h]
              have hbd : Below C.w.heap.size C.w { C.w with drawn := C.w.drawn + 1 } := (Below.refl _ _).drew
              have hle : Le B C { C with w := { C.w with drawn := C.w.drawn + 1 } } := Le.grow hr.size hbd
              refine ⟨by simp, fun j o _ hl => ?_, fun d hd1 hdl => ?_, rfl, rfl, hle, Fr.grow rfl hbd, ⟨0, Nat.zero_le _, ?_, fun j _ _ => ?_⟩, fun i o d _ _ _ hl => ?_, fun d _ => (ht.2 d).mono hle⟩
              · rw [gf] at hl; cases hl
              · simp at hdl; simp [hdl]
              · rw [e0]; exact hr.grow hbd
              · rw [gf]
                refine ⟨fun h => (by cases h), fun h => ?_⟩
                omega
              · rw [gf] at hl; cases hl
          · simp at he
        · simp at he
      · simp at hc

theorem regionM_sound (hcal : CalOK P cal) (hmo : P.follows .mixedOrders = true) {id : Nat} {ops : Array Oper} {pf : List FuncId} {sr : Bool} {mc : MC} {k : Nat} {s s' : St} {e : Ex} (hc : cRgM P ops pf sr = some mc) (he : evCode cal k lim mc s = some (e, s'))
    (ht : TmpR C s.1 a) (hr : Rel C B s.2) (hd : a.defers = []) (hQ : ∀ a' w', StPost B lim C s' a' w' → Q .normal a' w') : (Code.region id ops true).wp P Q a C.w ∧ e = .nrm := by
  obtain ⟨t, h⟩ := s
  simp only [cRgM, Option.bind_eq_bind, Option.bind_eq_some_iff] at hc
  obtain ⟨ms, hms, hc⟩ := hc
  split at hc
  · rename_i hcond
    simp only [Bool.and_eq_true, decide_eq_true_eq] at hcond
    simp only [Option.pure_def, Option.some.injEq] at hc
    subst hc
    simp only [evCode] at he
    split at he
    · rename_i s1 rs mu hev
      split at he
      · rename_i hrm
        split at he
        · rename_i s2 hs2
          simp only [Option.some.injEq, Prod.mk.injEq] at he
          obtain ⟨rfl, rfl⟩ := he
          exact ⟨regM_sound hcal hmo hms (clsL_snd ops _ _ _ _ _ _) (by simpa using hcond.1.2) hcond.1.1 hcond.2 hev hrm hs2 ht hr hd hQ (mapO_take _ hms) (fun xs i hi => lexT_take _ _ _ _ _ hi), rfl⟩
        · simp at he
      · simp at he
    · simp at he
  · simp at hc

theorem orO_some {x y : Option MC} {m : MC} (h : orO x y = some m) : x = some m ∨ y = some m := by
  cases x with
  | none => exact .inr h
  | some a => exact .inl h

theorem altO_some {x y : Option MC} {m : MC} (h : altO x y = some m) : (∃ a b, x = some a ∧ y = some b ∧ m = .alt a b) ∨ x = some m ∨ y = some m := by
  cases x with
  | none => exact .inr (.inr h)
  | some a =>
    cases y with
    | none => exact .inr (.inl h)
    | some b => exact .inl ⟨a, b, rfl, rfl, by simpa [altO] using h.symm⟩

theorem cRegion_sound (hcal : CalOK P cal) (hmo : P.follows .mixedOrders = true) {id : Nat} {pf : List FuncId} {ops : Array Oper} {draw : Bool} {mc : MC} {k : Nat} {s s' : St} {e : Ex} (hc : cRegion P pf ops draw = some mc) (he : evCode cal k lim mc s = some (e, s'))
    (ht : TmpR C s.1 a) (hr : Rel C B s.2) (hd : a.defers = []) (hQ : ∀ a' w', StPost B lim C s' a' w' → Q .normal a' w') : (Code.region id ops draw).wp P Q a C.w ∧ e = .nrm := by
  unfold cRegion at hc
  cases draw with
  | false => exact region_sound hcal hmo (by simpa using hc) he ht hr hd hQ
  | true =>
    simp only [if_true] at hc
    have m1 : ∀ {sr mc}, cRgM P ops pf sr = some mc → evCode cal k lim mc s = some (e, s') → (Code.region id ops true).wp P Q a C.w ∧ e = .nrm := fun hc he => regionM_sound hcal hmo hc he ht hr hd hQ
    have second : ∀ mc, orO (cRg P ops true) (cRgM P ops pf false) = some mc → evCode cal k lim mc s = some (e, s') → (Code.region id ops true).wp P Q a C.w ∧ e = .nrm := by
      intro mc hc he
      rcases orO_some hc with hm | hm
      · exact region_sound hcal hmo hm he ht hr hd hQ
      · exact m1 hm he
    split at hc
    · rcases altO_some hc with ⟨x, y, hx, hy, rfl⟩ | hm | hm
      · simp only [evCode] at he
        split at he
        · rename_i r hr1
          obtain rfl := Option.some.inj he
          exact m1 hx hr1
        · exact second y hy he
      · exact m1 hm he
      · exact second mc hm he
    · rcases orO_some hc with hm | hm
      · exact region_sound hcal hmo hm he ht hr hd hQ
      · rcases orO_some hm with hm | hm
        · exact m1 hm he
        · exact m1 hm he
end
end Go.Proofs.Ytjgnjpbplnmdmaa
