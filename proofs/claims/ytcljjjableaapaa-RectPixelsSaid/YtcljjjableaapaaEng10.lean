/- Codes and functions: what the evaluator comes to is what the machine's call hands back. -/
import Derived.Test.YtcljjjableaapaaEng9
namespace Go.Proofs.Ytcljjjableaapaa
open Go Go.RowKit

section
variable {P : Program} {cal : Callee} {l : List Oper} {Q : Exit → Act → World → Prop} {lim B : Nat} {h h' : List Row} {a : Act} {t t' : List LV} {C : Cx}

theorem quiet_same {m : MI} (hq : quietOp m.op = true) (he : evMI cal true lim m (t, h) = some (t', h')) : h' = h := by
  simp only [evMI] at he
  split at he
  · split at he
    · rename_i x h'' hev
      simp only [Option.some.injEq, Prod.mk.injEq] at he
      obtain ⟨rfl, rfl⟩ := he
      generalize hop : m.op = op at hq hev
      cases op
      case call f args =>
        simp only [evAny, evCall] at hev
        split at hev
        · split at hev
          · unfold orCall at hev
            split at hev
            · rename_i hres
              obtain rfl := Option.some.inj hev
              split at hres
              · split at hres <;> simp at hres; exact hres.2.symm
              · simp at hres
            · simp at hev
          · split at hev
            · unfold orCall at hev
              split at hev
              · rename_i hres
                obtain rfl := Option.some.inj hev
                split at hres
                · split at hres <;> simp at hres; exact hres.2.symm
                · simp at hres
              · simp at hev
            · simp only [if_true] at hev
              split at hev
              · split at hev <;> simp at hev; exact hev.2.symm
              · simp at hev
        · simp at hev
      case box => simp [quietOp] at hq
      case st => simp [quietOp] at hq
      case app => simp [quietOp] at hq
      case ld =>
        simp only [evAny, evOp] at hev
        split at hev
        · simp only [Option.map_eq_some_iff, Prod.mk.injEq] at hev
          obtain ⟨_, _, _, hh⟩ := hev
          exact hh.symm
        · simp only [Option.map_eq_some_iff, Prod.mk.injEq] at hev
          obtain ⟨_, _, _, hh⟩ := hev
          exact hh.symm
        · simp at hev
      all_goals (
        simp only [evAny, evOp] at hev
        first
          | (simp at hev; done)
          | (simp at hev; exact hev.2.symm)
          | (simp only [Option.map_eq_some_iff, Prod.mk.injEq] at hev; obtain ⟨_, _, _, hh⟩ := hev; exact hh.symm)
          | (repeat' split at hev) <;> first
            | (simp at hev; done)
            | (simp at hev; exact hev.2.symm)
            | (simp only [Option.map_eq_some_iff, Prod.mk.injEq] at hev; obtain ⟨_, _, _, hh⟩ := hev; exact hh.symm))
    · simp at he
  · simp only [Option.some.injEq, Prod.mk.injEq] at he
    exact he.2.symm
  · simp at he

theorem cI_dst {ops : Array Oper} {o : Oper} {m : MI} (h1 : cI P ops o = some m) : m.dst = o.dst := by
  unfold cI at h1
  simp only [Option.bind_eq_bind, Option.bind_eq_some_iff] at h1
  obtain ⟨op, _, h1⟩ := h1
  split at h1
  · simp at h1; rw [← h1]
  · split at h1 <;> simp at h1; rw [← h1]

theorem head_trace {ops : Array Oper} : ∀ (ls : List Oper) (ms : List MI) (t : List LV) (s : St), mapO (cI P ops) ls = some ms → (∀ m ∈ ms, (quietOp m.op || ghostB m) = true) → evOps cal true lim (ms.map hide) (t, h) = some s →
    ∃ xs : Nat → LV, s = (lexT ls t xs ls.length, h) ∧ ∀ (i : Nat) (o : Oper), ls[i]? = some o → ∃ m, cI P ops o = some m ∧ ms[i]? = some m ∧
      ((ghostZ m = none ∧ quietOp m.op = true ∧ evMI cal true lim m (lexT ls t xs i, h) = some (lexT ls t xs (i + 1), h)) ∨ (∃ z, ghostZ m = some z ∧ lexT ls t xs (i + 1) = putD o.dst (lexT ls t xs i) .bad))
  | [], ms, t, s, hm, _, he => by
    simp [mapO] at hm
    subst hm
    simp [evOps] at he
    subst he
    exact ⟨fun _ => .bad, rfl, fun i o ho => by simp at ho⟩
  | o :: ls, ms, t, s, hm, hq, he => by
    unfold mapO at hm
    split at hm
    · rename_i m ms' h1 h2
      simp at hm
      subst hm
      simp only [List.map_cons, evOps] at he
      split at he
      · rename_i s1 hs1
        obtain ⟨t1, h1'⟩ := s1
        have hdst := cI_dst h1
        have hh : h = h1' ∧ (∃ x, t1 = putD o.dst t x) ∧ ((ghostZ m = none ∧ quietOp m.op = true ∧ evMI cal true lim m (t, h) = some (t1, h)) ∨ (∃ z, ghostZ m = some z ∧ t1 = putD o.dst t .bad)) := by
          cases hz : ghostZ m with
          | some z =>
            have hb : ghostB m = true := by simp [ghostB, hz]
            simp only [hide, hb, if_true, evMI, wantB, evAny, evOp, ev, Option.some.injEq, Prod.mk.injEq] at hs1
            obtain ⟨rfl, rfl⟩ := hs1
            rw [hdst]
            exact ⟨rfl, ⟨.bad, rfl⟩, .inr ⟨z, rfl, rfl⟩⟩
          | none =>
            have hb : ghostB m = false := by simp [ghostB, hz]
            have hqm : quietOp m.op = true := by
              have := hq m (by simp)
              simpa [hb] using this
            simp only [hide, hb] at hs1
            have hs1' : evMI cal true lim m (t, h) = some (t1, h1') := by simpa using hs1
            obtain rfl := (quiet_same hqm hs1').symm
            refine ⟨rfl, ?_, .inl ⟨rfl, hqm, hs1'⟩⟩
            simp only [evMI, hdst] at hs1'
            split at hs1'
            · split at hs1'
              · rename_i x h'' _
                simp at hs1'
                exact ⟨x, hs1'.1.symm⟩
              · simp at hs1'
            · simp at hs1'
              exact ⟨.u, hs1'.symm⟩
            · simp at hs1'
        obtain ⟨rfl, ⟨x, rfl⟩, hstep⟩ := hh
        obtain ⟨xs, e1, e2⟩ := head_trace ls ms' _ s h2 (fun m hm => hq m (by simp [hm])) he
        have shift : ∀ i, lexT (o :: ls) t (fun | 0 => x | k + 1 => xs k) (i + 1) = lexT ls (putD o.dst t x) xs i := by
          intro i
          induction i with
          | zero => rfl
          | succ i ih =>
            show putD _ (lexT (o :: ls) t _ (i + 1)) _ = putD _ (lexT ls _ xs i) _
            rw [ih]
            rfl
        refine ⟨fun | 0 => x | k + 1 => xs k, by rw [List.length_cons, shift]; exact e1, fun i y hy => ?_⟩
        cases i with
        | zero =>
          simp at hy
          subst hy
          refine ⟨m, h1, rfl, ?_⟩
          rw [shift]
          exact hstep
        | succ i =>
          obtain ⟨m', f1, f2, f3⟩ := e2 i y (by simpa using hy)
          refine ⟨m', f1, by simpa using f2, ?_⟩
          rw [shift, shift]
          exact f3
      · simp at he
    · simp at hm

/-- The new variables of a region: their blocks, and what they begin with. -/
def gpairs (gz : Nat → Option LV) (bk : Nat → Nat) (n : Nat) : List (Nat × LV) := (List.range n).filterMap fun i => (gz i).map fun z => (bk i, z)

def Cend (C : Cx) (gp : List (Nat × LV)) (w : World) : Cx := ⟨C.ρ ++ gp.map fun p => (p.1, 0), C.vs ++ gp.map fun _ => 0, C.X, w⟩
def gRows (gp : List (Nat × LV)) : List Row := gp.map fun p => ⟨0, p.2.cells⟩

theorem gp_mem {gz : Nat → Option LV} {bk : Nat → Nat} {n : Nat} {p : Nat × LV} (h : p ∈ gpairs gz bk n) : ∃ i, i < n ∧ gz i = some p.2 ∧ bk i = p.1 := by
  unfold gpairs at h
  obtain ⟨i, hi, hp⟩ := List.mem_filterMap.1 h
  obtain ⟨z, hz, rfl⟩ := Option.map_eq_some_iff.1 hp
  exact ⟨i, List.mem_range.1 hi, hz, rfl⟩

theorem gp_ne {ls : List Oper} {gz : Nat → Option LV} {bk : Nat → Nat} {n : Nat} {listed : Array Bool} {w : World} (hg : Ghosts C ls gz bk n listed a w) (hall : ∀ j, j < n → listed.getD j false = true) : (gpairs gz bk n).Pairwise fun x y => x.1 ≠ y.1 := by
  unfold gpairs
  refine List.Pairwise.filterMap (R := fun i j => i < j ∧ i < n ∧ j < n) (f := fun i => (gz i).map fun z => (bk i, z)) ?_ ?_
  · rintro i j ⟨hij, hi, hj⟩ x hx y hy
    simp only [Option.map_eq_some_iff] at hx hy
    obtain ⟨z, hz, rfl⟩ := hx
    obtain ⟨z', hz', rfl⟩ := hy
    intro he
    have := hg.2 i j hi hj (by simp [hz]) (by simp [hz']) (hall i hi) (hall j hj) he
    omega
  · rw [List.pairwise_iff_getElem]
    intro i j hi hj hij
    simp at hi hj ⊢
    omega

theorem pair_idx {gp : List (Nat × LV)} (hp : gp.Pairwise fun x y => x.1 ≠ y.1) {i j : Nat} {b : Nat} (h1 : (gp.map (·.1))[i]? = some b) (h2 : (gp.map (·.1))[j]? = some b) : i = j := by
  rw [List.pairwise_iff_getElem] at hp
  simp only [List.getElem?_map, Option.map_eq_some_iff] at h1 h2
  obtain ⟨x, hx, rfl⟩ := h1
  obtain ⟨y, hy, he⟩ := h2
  obtain ⟨hi, rfl⟩ := List.getElem?_eq_some_iff.1 hx
  obtain ⟨hj, rfl⟩ := List.getElem?_eq_some_iff.1 hy
  rcases Nat.lt_trichotomy i j with h | h | h
  · exact absurd he.symm (hp i j hi hj h)
  · exact h
  · exact absurd he (hp j i hj hi h)

theorem adopt {ls : List Oper} {gz : Nat → Option LV} {bk : Nat → Nat} {n : Nat} {listed : Array Bool} {w : World} (hr : Rel C B h) (hb : Below C.w.heap.size C.w w) (hg : Ghosts C ls gz bk n listed a w) (hall : ∀ j, j < n → listed.getD j false = true) :
    Rel (Cend C (gpairs gz bk n) w) B (h ++ gRows (gpairs gz bk n)) ∧ Le B C (Cend C (gpairs gz bk n) w) ∧ Fr lim C (Cend C (gpairs gz bk n) w) ∧ Mo (Cg C gz bk n listed w) (Cend C (gpairs gz bk n) w) := by
  have hmem : ∀ p ∈ gpairs gz bk n, C.w.heap.size ≤ p.1 ∧ p.1 < w.heap.size ∧ ∃ us ty, w.heap[p.1]? = some (.cells us ty (0, 0)) ∧ ∀ D : Cx, ConcL D p.2.cells us.toList := by
    intro p hp
    obtain ⟨i, hi, hz, hbk⟩ := gp_mem hp
    obtain ⟨g1, g2, g3, _⟩ := hg.1 i p.2 hi hz (hall i hi)
    rw [hbk] at g1 g2 g3
    exact ⟨g1, g2, g3⟩
  have hne := gp_ne hg hall
  have hrg := cg_rel hr hb hg
  generalize hgp : gpairs gz bk n = gp at *
  have hlen : C.ρ.length = h.length := hr.len
  have hvl : C.vs.length = h.length := by rw [hr.vs]; simp
  have hold : ∀ (k b q : Nat), C.ρ[k]? = some (b, q) → b < C.w.heap.size := by
    intro k b q hk
    have hlt : k < h.length := by rw [← hr.len]; exact (List.getElem?_eq_some_iff.1 hk).1
    obtain ⟨_, us, tt, e, _⟩ := hr.row k b q h[k] hk (by simp [hlt])
    exact (Array.getElem?_eq_some_iff.1 e).1
  have hspl : ∀ (k b q : Nat), (Cend C gp w).ρ[k]? = some (b, q) → (k < h.length ∧ C.ρ[k]? = some (b, q)) ∨ (h.length ≤ k ∧ q = 0 ∧ ∃ p ∈ gp, p.1 = b ∧ gp[k - h.length]? = some p) := by
    intro k b q hk
    have hk' : (C.ρ ++ gp.map fun p => (p.1, 0))[k]? = some (b, q) := hk
    rw [List.getElem?_append] at hk'
    split at hk'
    · rename_i hlt; exact .inl ⟨by omega, hk'⟩
    · rename_i hge
      simp only [List.getElem?_map, Option.map_eq_some_iff, Prod.mk.injEq] at hk'
      obtain ⟨p, hp, rfl, rfl⟩ := hk'
      rw [hlen] at hp
      exact .inr ⟨by omega, rfl, p, List.mem_of_getElem? hp, rfl, hp⟩
  have hroom : ∀ b m, b < C.w.heap.size → room C.w b m → room w b m := fun b m hlt ⟨us, tt, e, hs⟩ => ⟨us, tt, by rw [hb.block b hlt]; exact e, hs⟩
  have hρ : ∀ (k : Nat) x, C.ρ[k]? = some x → (Cend C gp w).ρ[k]? = some x := fun k x hx => by
    show (C.ρ ++ _)[k]? = _
    rw [List.getElem?_append_left (List.getElem?_eq_some_iff.1 hx).1]; exact hx
  have hvs : ∀ (k : Nat) x, C.vs[k]? = some x → (Cend C gp w).vs[k]? = some x := fun k x hx => by
    show (C.vs ++ _)[k]? = _
    rw [List.getElem?_append_left (List.getElem?_eq_some_iff.1 hx).1]; exact hx
  have hown : ∀ b, (Cend C gp w).own b → C.own b ∨ (C.w.heap.size ≤ b ∧ ∃ p ∈ gp, p.1 = b) := by
    rintro b ⟨k, q, hk⟩
    rcases hspl k b q hk with ⟨_, h⟩ | ⟨_, _, p, hp, rfl, _⟩
    · exact .inl ⟨k, q, h⟩
    · exact .inr ⟨(hmem p hp).1, p, hp, rfl⟩
  have hcell : ∀ (b off : Nat) u, C.w.cell? ⟨b, off, none⟩ = some u → b < C.w.heap.size := fun b off u e3 => by
    rcases Nat.lt_or_ge b C.w.heap.size with h | h
    · exact h
    · unfold World.cell? at e3
      simp [Array.getElem?_eq_none h] at e3
  have hle : Le B C (Cend C gp w) := by
    refine ⟨rfl, fun k ver b q e1 e2 => .inl ⟨hρ _ _ e1, hvs _ _ e2, fun m hm => hroom b m (hold _ _ _ e1) hm⟩, fun k cur e => ⟨cur, hvs _ _ e, Nat.le_refl _⟩, fun b off u e1 e2 e3 => ?_, hb.mono hr.size⟩
    have hlt := hcell b off u e3
    refine ⟨(hb.cell (p := ⟨b, off, none⟩) hlt).trans e3, fun ho => ?_⟩
    rcases hown b ho with ho | ⟨ho, _⟩
    · exact e1 ho
    · omega
  refine ⟨⟨?_, ?_, ?_, ?_, ?_, Nat.le_trans hr.size hb.size⟩, hle, ⟨fun b hlt _ => hb.block b hlt, fun k b q e1 e2 e3 => ?_, hb.size⟩, ?_⟩
  · show (C.ρ ++ _).length = (h ++ _).length
    simp [gRows, hlen]
  · show C.vs ++ _ = (h ++ gRows gp).map Row.ver
    rw [List.map_append, ← hr.vs]
    simp [gRows]
  · intro k k' b q q' e1 e2
    rcases hspl k b q e1 with ⟨_, x1⟩ | ⟨x1, _, p, hp, hpb, x2⟩ <;> rcases hspl k' b q' e2 with ⟨_, y1⟩ | ⟨y1, _, p', hp', hpb', y2⟩
    · exact hr.inj k k' b q q' x1 y1
    · have := hold _ _ _ x1
      have := (hmem p' hp').1
      omega
    · have := hold _ _ _ y1
      have := (hmem p hp).1
      omega
    · have := pair_idx hne (i := k - h.length) (j := k' - h.length) (b := b) (by simp [x2, hpb]) (by simp [y2, hpb'])
      omega
  · intro k b q r e1 e2
    rcases hspl k b q e1 with ⟨x0, x1⟩ | ⟨x0, rfl, p, hp, rfl, x2⟩
    · rw [List.getElem?_append_left (by omega)] at e2
      obtain ⟨y1, us, tt, y2, y3, y4⟩ := hr.row k b q r x1 e2
      refine ⟨y1, us, tt, ?_, y3, fun i c hi => ?_⟩
      · show w.heap[b]? = _
        rw [hb.block b (hold _ _ _ x1)]; exact y2
      · obtain ⟨u, z1, z2⟩ := y4 i c hi
        exact ⟨u, z1, z2.mono hle⟩
    · rw [List.getElem?_append_right (by omega)] at e2
      simp only [gRows, List.getElem?_map, x2, Option.map_some, Option.some.injEq] at e2
      subst e2
      obtain ⟨m1, m2, us, ty, m3, m4⟩ := hmem p hp
      refine ⟨Nat.le_trans hr.size m1, us, ty, m3, by have := (m4 C).1; simp at this ⊢; omega, fun i c hi => ?_⟩
      have hlt : i < us.size := by
        have h1 := (List.getElem?_eq_some_iff.1 hi).1
        have h2 := (m4 C).1
        simp at *
        omega
      exact ⟨us[i], by simp [hlt], (m4 _).2 i c us[i] hi (by simp [hlt])⟩
  · intro b hx
    refine ⟨Nat.lt_of_lt_of_le (hr.X b hx).1 hb.size, fun ho => ?_⟩
    rcases hown b ho with ho | ⟨ho, _⟩
    · exact (hr.X b hx).2 ho
    · have := (hr.X b hx).1; omega
  · rcases hspl k b q e2 with ⟨_, h⟩ | ⟨_, _, p, hp, rfl, _⟩
    · exact ⟨k, q, e1, h⟩
    · have := (hmem p hp).1; omega
  · refine ⟨fun k ver b q e1 e2 => .inl ⟨hρ _ _ e1, hvs _ _ e2, fun m hm => hm⟩, fun k cur e => ⟨cur, hvs _ _ e, Nat.le_refl _⟩, fun b off u e1 e2 e3 => ⟨e3, fun ho => ?_, fun hx => e2 (.inl hx)⟩⟩
    rcases hown b ho with ho | ⟨_, p, hp, rfl⟩
    · exact e1 ho
    · rw [← hgp] at hp
      obtain ⟨i, hi, hz, hbk⟩ := gp_mem hp
      exact e2 (.inr ⟨i, hi, hall i hi, by simp [hz], hbk⟩)

theorem adopt_eval {D : Cx} {ms : List MI} {bk : Nat → Nat} {rest : List MI} {s : St} : ∀ (is : List Nat) (tm : List LV) (hm : List Row),
    evOps cal false lim ((is.filterMap fun i => (ms[i]?).bind fun m => if ghostB m then some m else none) ++ rest) (tm, hm) = some s → TmpR D tm a →
    D.ρ.drop hm.length = ((is.filterMap fun i => ((ms[i]?).bind ghostZ).map fun z => (bk i, z)).map fun p => (p.1, 0)) → D.vs.drop hm.length = ((is.filterMap fun i => ((ms[i]?).bind ghostZ).map fun z => (bk i, z)).map fun _ => 0) →
    (∀ i ∈ is, ∀ m z d, ms[i]? = some m → ghostZ m = some z → m.dst = some d → d < a.tmps.size → a.tmps.getD d undef = .pointer (some ⟨bk i, 0, none⟩)) →
    ∃ t', TmpR D t' a ∧ evOps cal false lim rest (t', hm ++ gRows (is.filterMap fun i => ((ms[i]?).bind ghostZ).map fun z => (bk i, z))) = some s
  | [], tm, hm, he, ht, _, _, _ => ⟨tm, ht, by simpa [gRows] using he⟩
  | i :: is, tm, hm, he, ht, h1, h2, hd => by
    cases hmi : (ms[i]?).bind ghostZ with
    | none =>
      have hno : ((ms[i]?).bind fun m => if ghostB m then some m else none) = none := by
        cases hi : ms[i]? with
        | none => rfl
        | some m =>
          rw [hi] at hmi
          simp only [Option.bind_some] at hmi ⊢
          simp [ghostB, hmi]
      simp only [List.filterMap_cons, hno, hmi, Option.map_none] at he h1 h2 ⊢
      exact adopt_eval is tm hm he ht h1 h2 (fun j hj => hd j (by simp [hj]))
    | some z =>
      obtain ⟨m, hi, hz⟩ := Option.bind_eq_some_iff.1 hmi
      have hyes : ((ms[i]?).bind fun m => if ghostB m then some m else none) = some m := by
        rw [hi]; simp [ghostB, hz]
      simp only [List.filterMap_cons, hyes, hmi, Option.map_some] at he h1 h2 ⊢
      have hform : ∃ d, m = ⟨some d, .box (.c z), none⟩ ∧ z.cells.all atomB = true := by
        obtain ⟨dst, op, g⟩ := m
        simp only [ghostZ] at hz
        split at hz <;> try (simp at hz; done)
        rename_i z' d
        split at hz <;> simp at hz
        rename_i hat
        subst hz
        exact ⟨d, by simp_all, hat⟩
      obtain ⟨d, rfl, hat⟩ := hform
      have hev : evMI cal false lim ⟨some d, .box (.c z), none⟩ (tm, hm) = some (setT tm d (.p hm.length 0 0), hm ++ [⟨0, z.cells⟩]) := by
        simp only [evMI, wantB, evAny, evOp, ev, hat, if_true, putD]
      simp only [List.cons_append, evOps, hev] at he
      have hρ0 : D.ρ[hm.length]? = some (bk i, 0) := by
        have := congrArg (fun l => l[0]?) h1
        simpa using this
      have hv0 : D.vs[hm.length]? = some 0 := by
        have := congrArg (fun l => l[0]?) h2
        simpa using this
      obtain ⟨t', x1, x2⟩ := adopt_eval (D := D) (bk := bk) is (setT tm d (.p hm.length 0 0)) (hm ++ [⟨0, z.cells⟩]) he
        ⟨by rw [setT_length]; exact ht.1, fun j => by
          rw [getT_set]
          split
          · rename_i hj
            obtain ⟨rfl, hj⟩ := hj
            rw [hd i (by simp) _ z d hi hz rfl (by rw [← ht.1]; exact hj)]
            exact Conc.p (o := 0) hρ0 hv0
          · exact ht.2 j⟩
        (by rw [List.length_append, ← List.drop_drop, h1]; simp)
        (by rw [List.length_append, ← List.drop_drop, h2]; simp)
        (fun j hj => hd j (by simp [hj]))
      exact ⟨t', x1, by simpa [gRows] using x2⟩

theorem lexT_take (l : List Oper) (t : List LV) (xs : Nat → LV) (n : Nat) : ∀ i, i ≤ n → lexT (l.take n) t xs i = lexT l t xs i
  | 0, _ => rfl
  | i + 1, hi => by
    unfold lexT
    rw [lexT_take l t xs n i (by omega), List.getElem?_take, if_pos (by omega)]

theorem mapO_take {α β : Type} {f : α → Option β} : ∀ {l : List α} {m : List β} (n : Nat), mapO f l = some m → mapO f (l.take n) = some (m.take n) ∧ mapO f (l.drop n) = some (m.drop n)
  | [], m, n, h => by simp [mapO] at h; subst h; simp [mapO]
  | x :: l, m, 0, h => ⟨rfl, h⟩
  | x :: l, m, n + 1, h => by
    unfold mapO at h
    split at h
    · rename_i y m' h1 h2
      simp at h
      subst h
      obtain ⟨e1, e2⟩ := mapO_take n h2
      exact ⟨by simp [mapO, h1, e1], by simpa using e2⟩
    · simp at h

/-- A region. -/
theorem region_sound (hcal : CalOK P cal) (hmo : P.follows .mixedOrders = true) {names : Array String} {id : Nat} {ops : Array Oper} {draw : Bool} {mc : MC} {k : Nat} {s s' : St} {e : Ex} (hc : cC P names (.region id ops draw) = some mc) (he : evCode cal k lim mc s = some (e, s'))
    (ht : TmpR C s.1 a) (hr : Rel C B s.2) (hd : a.defers = []) (hQ : ∀ a' w', StPost B lim C s' a' w' → Q .normal a' w') : (Code.region id ops draw).wp P Q a C.w ∧ e = .nrm := by
  obtain ⟨t, h⟩ := s
  simp only [cC, Option.bind_eq_bind, Option.bind_eq_some_iff] at hc
  obtain ⟨ms, hms, hc⟩ := hc
  have hops : ops = ops.toList.toArray := by simp
  cases draw with
  | false =>
    simp only [Bool.false_eq_true, if_false, Option.pure_def, Option.some.injEq] at hc
    subst hc
    simp only [evCode, evOps] at he
    split at he
    · rename_i s2 hs2
      simp only [Option.some.injEq, Prod.mk.injEq] at he
      obtain ⟨rfl, rfl⟩ := he
      refine ⟨?_, rfl⟩
      exact wp_region_list (ops_list hcal _ ms t h a C s2 hms hs2 ht hr hd hQ)
    · simp at he
  | true =>
    simp only [if_true] at hc
    split at hc
    · rename_i hcond
      simp only [Bool.and_eq_true, List.all_eq_true, decide_eq_true_eq] at hcond
      obtain ⟨⟨hfl, hqt⟩, hle⟩ := hcond
      simp only [Option.pure_def, Option.some.injEq] at hc
      subst hc
      simp only [evCode] at he
      split at he
      · rename_i s1 hs1
        split at he
        · rename_i s2 hs2
          simp only [Option.some.injEq, Prod.mk.injEq] at he
          obtain ⟨rfl, rfl⟩ := he
          refine ⟨?_, rfl⟩
          generalize hn : headN ops = n at *
          obtain ⟨m1, m2⟩ := mapO_take n hms
          obtain ⟨xs, e1, e2⟩ := head_trace _ _ _ _ m1 hqt hs1
          subst e1
          have hlen : (ops.toList.take n).length = n := by simp; omega
          rw [hlen, lexT_take _ _ _ _ _ (Nat.le_refl _)] at hs2
          rw [hops] at hfl
          rw [hops]
          refine wp_region_any hmo ?_
          have := head_any (l := ops.toList) (Q := Q) (A := a) (xs := xs) (gz := fun i => (ms[i]?).bind ghostZ) hcal (by simpa using hle) (flow_of hfl) hr ht.1 (fun i o hi ho => by
              obtain ⟨m, f1, f2, f3⟩ := e2 i o (by rw [List.getElem?_take, if_pos hi]; exact ho)
              rw [lexT_take _ _ _ _ _ (by omega), lexT_take _ _ _ _ _ (by omega)] at f3
              rw [List.getElem?_take, if_pos hi] at f2
              exact ⟨m, by rw [← hops]; exact f1, by rw [f2]; rfl, f3⟩)
            (fun i o x hi ho hx d hd' hlt => by
              have h1 : lexT ops.toList t xs (i + 1) = putD o.dst (lexT ops.toList t xs i) (xs i) := by
                show putD _ _ _ = _
                rw [ho]; rfl
              rw [h1] at hx
              have h2 := congrArg (fun z => getT z d) hx
              simp only [putD_get, lexT_length, hd', hlt, and_self, if_true] at h2
              exact h2)
            (fun a' w' bk listed hb hall ht' hg hd' => by
              obtain ⟨r1, r2, r3, r4⟩ := adopt (lim := lim) hr hb hg hall
              have ht2 : TmpR (Cend C (gpairs (fun i => (ms[i]?).bind ghostZ) bk n) w') (lexT ops.toList t xs n) a' := ⟨ht'.1, fun i => (ht'.2 i).mo r4⟩
              obtain ⟨t', q1, q2⟩ := adopt_eval (D := Cend C (gpairs (fun i => (ms[i]?).bind ghostZ) bk n) w') (bk := bk) (a := a') (List.range n) _ _ hs2 ht2
                (by show (C.ρ ++ _).drop h.length = _; rw [← hr.len, List.drop_left]; rfl)
                (by show (C.vs ++ _).drop h.length = _; rw [show h.length = C.vs.length by rw [hr.vs]; simp, List.drop_left]; rfl)
                (fun i hi m z d hmi hz hdst hlt => by
                  have hin : i < n := List.mem_range.1 hi
                  have hil : i < ops.toList.length := by simp; omega
                  obtain ⟨m', f1, f2, _⟩ := e2 i ops.toList[i] (by rw [List.getElem?_take, if_pos hin]; exact List.getElem?_eq_getElem hil)
                  rw [List.getElem?_take, if_pos hin, hmi] at f2
                  cases f2
                  exact (hg.1 i z hin (by show (ms[i]?).bind ghostZ = _; rw [hmi]; exact hz) (hall i hin)).2.2.2 ops.toList[i] d (List.getElem?_eq_getElem hil) (by rw [← cI_dst f1]; exact hdst) hlt)
              exact ops_list hcal _ _ _ _ a' _ s2 (by rw [← hops]; exact m2) q2 q1 r1 (by rw [hd', hd]) fun a2 w2 hst => hQ a2 w2 (hst.trans r2 r3))
            ops.toList.toArray.size (Array.replicate ops.toList.toArray.size false) (fun _ => 0) a { C.w with drawn := C.w.drawn + 1 } ?_ ?_
          · exact this
          · simp [left]
          · have gf : ∀ (m j : Nat), (Array.replicate m false).getD j false = false := fun m j => by
              rcases Nat.lt_or_ge j m with h | h <;> simp [h]
            have hbd : Below C.w.heap.size C.w { C.w with drawn := C.w.drawn + 1 } := (Below.refl _ _).drew
            refine ⟨by simp, fun j o _ hl => ?_, fun d hd1 hdl => ?_, rfl, rfl, hbd, fun i o d _ _ _ hl => ?_, fun d _ => Conc.mo (C := C) (C' := Cg C (fun i => (ms[i]?).bind ghostZ) (fun _ => 0) n (Array.replicate ops.toList.toArray.size false) { C.w with drawn := C.w.drawn + 1 }) (mo_grow rfl rfl hbd ?_) (ht.2 d), ⟨fun i z _ _ hl => ?_, fun i j _ _ _ _ hl => ?_⟩⟩
            · rw [gf] at hl; cases hl
            · simp at hdl; simp [hdl]
            · rw [gf] at hl; cases hl
            · rintro b _ (hx | ⟨i, _, hl, _⟩)
              · exact hx
              · rw [gf] at hl; cases hl
            · rw [gf] at hl; cases hl
            · rw [gf] at hl; cases hl
        · simp at he
      · simp at he
    · simp at hc
end
end Go.Proofs.Ytcljjjableaapaa
