/- Codes and functions: what the evaluator comes to is what the machine's call hands back. -/
import Derived.Test.YtalhkhbdoinbdaaEng9
namespace Go.Proofs.Ytalhkhbdoinbdaa
open Go Go.RowKit

section
variable {P : Program} {cal : Callee} {l : List Oper} {Q : Exit → Act → World → Prop} {lim B : Nat} {h h' : List Row} {a : Act} {t t' : List LV} {C : Cx}

theorem quiet_same {m : MI} (hq : quietOp m.op = true) (he : evMI cal true lim m (t, h) = some (t', h')) : h' = h := by
  simp only [evMI] at he
  split at he
  · split at he
    · rename_i x h'' hev
      simp only [Option.some.injEq, Prod.mk.injEq] at he
      obtain ⟨rfl, rfl⟩ := he
      generalize hop : m.op = op at hq hev
      cases op
      case call f args =>
        simp only [evAny, evCall] at hev
        split at hev
        · split at hev
          · split at hev
            · split at hev <;> simp at hev; exact hev.2.symm
            · simp at hev
          · split at hev
            · split at hev
              · split at hev <;> simp at hev; exact hev.2.symm
              · simp at hev
            · simp only [if_true] at hev
              split at hev
              · split at hev <;> simp at hev; exact hev.2.symm
              · simp at hev
        · simp at hev
      case box => simp [quietOp] at hq
      case st => simp [quietOp] at hq
      case app => simp [quietOp] at hq
      case ld =>
        simp only [evAny, evOp] at hev
        split at hev
        · simp only [Option.map_eq_some_iff, Prod.mk.injEq] at hev
          obtain ⟨_, _, _, hh⟩ := hev
          exact hh.symm
        · simp only [Option.map_eq_some_iff, Prod.mk.injEq] at hev
          obtain ⟨_, _, _, hh⟩ := hev
          exact hh.symm
        · simp at hev
      all_goals (
        simp only [evAny, evOp] at hev
        first
          | (simp at hev; done)
          | (simp at hev; exact hev.2.symm)
          | (simp only [Option.map_eq_some_iff, Prod.mk.injEq] at hev; obtain ⟨_, _, _, hh⟩ := hev; exact hh.symm)
          | (repeat' split at hev) <;> first
            | (simp at hev; done)
            | (simp at hev; exact hev.2.symm)
            | (simp only [Option.map_eq_some_iff, Prod.mk.injEq] at hev; obtain ⟨_, _, _, hh⟩ := hev; exact hh.symm))
    · simp at he
  · simp only [Option.some.injEq, Prod.mk.injEq] at he
    exact he.2.symm
  · simp at he

theorem head_trace {ops : Array Oper} : ∀ (ls : List Oper) (ms : List MI) (t : List LV) (s : St), mapO (cI P ops) ls = some ms → (∀ m ∈ ms, quietOp m.op = true) → evOps cal true lim ms (t, h) = some s →
    ∃ xs : Nat → LV, s = (lexT ls t xs ls.length, h) ∧ ∀ (i : Nat) (o : Oper), ls[i]? = some o → ∃ m, cI P ops o = some m ∧ quietOp m.op = true ∧ m.dst = o.dst ∧ evMI cal true lim m (lexT ls t xs i, h) = some (lexT ls t xs (i + 1), h)
  | [], ms, t, s, hm, _, he => by
    simp [mapO] at hm
    subst hm
    simp [evOps] at he
    subst he
    exact ⟨fun _ => .bad, rfl, fun i o ho => by simp at ho⟩
  | o :: ls, ms, t, s, hm, hq, he => by
    unfold mapO at hm
    split at hm
    · rename_i m ms' h1 h2
      simp at hm
      subst hm
      simp only [evOps] at he
      split at he
      · rename_i s1 hs1
        obtain ⟨t1, h1'⟩ := s1
        obtain rfl := (quiet_same (hq m (by simp)) hs1).symm
        have hdst : m.dst = o.dst := by
          unfold cI at h1
          simp only [Option.bind_eq_bind, Option.bind_eq_some_iff] at h1
          obtain ⟨op, _, h1⟩ := h1
          split at h1
          · simp at h1; rw [← h1]
          · split at h1 <;> simp at h1; rw [← h1]
        obtain ⟨x, hx⟩ : ∃ x, t1 = putD o.dst t x := by
          simp only [evMI, hdst] at hs1
          split at hs1
          · split at hs1
            · rename_i x h'' _
              simp at hs1
              exact ⟨x, hs1.1.symm⟩
            · simp at hs1
          · simp at hs1
            exact ⟨.u, hs1.symm⟩
          · simp at hs1
        subst hx
        obtain ⟨xs, e1, e2⟩ := head_trace ls ms' _ s h2 (fun m hm => hq m (by simp [hm])) he
        have shift : ∀ i, lexT (o :: ls) t (fun | 0 => x | k + 1 => xs k) (i + 1) = lexT ls (putD o.dst t x) xs i := by
          intro i
          induction i with
          | zero => rfl
          | succ i ih =>
            show putD _ (lexT (o :: ls) t _ (i + 1)) _ = putD _ (lexT ls _ xs i) _
            rw [ih]
            rfl
        refine ⟨fun | 0 => x | k + 1 => xs k, by rw [List.length_cons, shift]; exact e1, fun i y hy => ?_⟩
        cases i with
        | zero =>
          simp at hy
          subst hy
          refine ⟨m, h1, hq m (by simp), hdst, ?_⟩
          rw [shift]
          exact hs1
        | succ i =>
          obtain ⟨m', f1, f2, f3, f4⟩ := e2 i y (by simpa using hy)
          refine ⟨m', f1, f2, f3, ?_⟩
          rw [shift, shift]
          exact f4
      · simp at he
    · simp at hm

theorem lexT_take (l : List Oper) (t : List LV) (xs : Nat → LV) (n : Nat) : ∀ i, i ≤ n → lexT (l.take n) t xs i = lexT l t xs i
  | 0, _ => rfl
  | i + 1, hi => by
    unfold lexT
    rw [lexT_take l t xs n i (by omega), List.getElem?_take, if_pos (by omega)]

theorem mapO_take {α β : Type} {f : α → Option β} : ∀ {l : List α} {m : List β} (n : Nat), mapO f l = some m → mapO f (l.take n) = some (m.take n) ∧ mapO f (l.drop n) = some (m.drop n)
  | [], m, n, h => by simp [mapO] at h; subst h; simp [mapO]
  | x :: l, m, 0, h => ⟨rfl, h⟩
  | x :: l, m, n + 1, h => by
    unfold mapO at h
    split at h
    · rename_i y m' h1 h2
      simp at h
      subst h
      obtain ⟨e1, e2⟩ := mapO_take n h2
      exact ⟨by simp [mapO, h1, e1], by simpa using e2⟩
    · simp at h

/-- A region. -/
theorem region_sound (hcal : CalOK P cal) (hmo : P.follows .mixedOrders = true) {names : Array String} {id : Nat} {ops : Array Oper} {draw : Bool} {mc : MC} {k : Nat} {s s' : St} {e : Ex} (hc : cC P names (.region id ops draw) = some mc) (he : evCode cal k lim mc s = some (e, s'))
    (ht : TmpR C s.1 a) (hr : Rel C B s.2) (hd : a.defers = []) (hQ : ∀ a' w', StPost B lim C s' a' w' → Q .normal a' w') : (Code.region id ops draw).wp P Q a C.w ∧ e = .nrm := by
  obtain ⟨t, h⟩ := s
  simp only [cC, Option.bind_eq_bind, Option.bind_eq_some_iff] at hc
  obtain ⟨ms, hms, hc⟩ := hc
  have hops : ops = ops.toList.toArray := by simp
  cases draw with
  | false =>
    simp only [Bool.false_eq_true, if_false, Option.pure_def, Option.some.injEq] at hc
    subst hc
    simp only [evCode, evOps] at he
    split at he
    · rename_i s2 hs2
      simp only [Option.some.injEq, Prod.mk.injEq] at he
      obtain ⟨rfl, rfl⟩ := he
      refine ⟨?_, rfl⟩
      exact wp_region_list (ops_list hcal _ ms t h a C s2 hms hs2 ht hr hd hQ)
    · simp at he
  | true =>
    simp only [if_true] at hc
    split at hc
    · rename_i hcond
      simp only [Bool.and_eq_true, List.all_eq_true, decide_eq_true_eq] at hcond
      obtain ⟨⟨hfl, hqt⟩, hle⟩ := hcond
      simp only [Option.pure_def, Option.some.injEq] at hc
      subst hc
      simp only [evCode] at he
      split at he
      · rename_i s1 hs1
        split at he
        · rename_i s2 hs2
          simp only [Option.some.injEq, Prod.mk.injEq] at he
          obtain ⟨rfl, rfl⟩ := he
          refine ⟨?_, rfl⟩
          generalize hn : headN ops = n at *
          obtain ⟨m1, m2⟩ := mapO_take n hms
          obtain ⟨xs, e1, e2⟩ := head_trace _ _ _ _ m1 hqt hs1
          subst e1
          have hlen : (ops.toList.take n).length = n := by simp; omega
          rw [hlen, lexT_take _ _ _ _ _ (Nat.le_refl _)] at hs2
          rw [hops] at hfl
          rw [hops]
          refine wp_region_any hmo ?_
          have := head_any (l := ops.toList) (Q := Q) (A := a) (xs := xs) hcal (by simpa using hle) (flow_of hfl) hr ht.1 (fun i o hi ho => by
              obtain ⟨m, f1, f2, _, f3⟩ := e2 i o (by rw [List.getElem?_take, if_pos hi]; exact ho)
              rw [lexT_take _ _ _ _ _ (by omega), lexT_take _ _ _ _ _ (by omega)] at f3
              exact ⟨m, by rw [← hops]; exact f1, f2, f3⟩)
            (fun i o x hi ho hx d hd' hlt => by
              have h1 : lexT ops.toList t xs (i + 1) = putD o.dst (lexT ops.toList t xs i) (xs i) := by
                show putD _ _ _ = _
                rw [ho]; rfl
              rw [h1] at hx
              have h2 := congrArg (fun z => getT z d) hx
              simp only [putD_get, lexT_length, hd', hlt, and_self, if_true] at h2
              exact h2)
            (fun a' w' hb ht' hd' => by
              have hle' := Le.grow (B := B) (C := C) (w' := w') hr.size hb
              exact ops_list hcal _ _ _ _ a' { C with w := w' } s2 (by rw [← hops]; exact m2) hs2 ht' (Rel.grow hr hb) (by rw [hd', hd]) fun a2 w2 hst => hQ a2 w2 (hst.trans hle' (Fr.grow rfl hb)))
            ops.toList.toArray.size (Array.replicate ops.toList.toArray.size false) a { C.w with drawn := C.w.drawn + 1 } ?_ ?_
          · exact this
          · simp [left]
          · have gf : ∀ (m j : Nat), (Array.replicate m false).getD j false = false := fun m j => by
              rcases Nat.lt_or_ge j m with h | h <;> simp [h]
            have hbd : Below C.w.heap.size C.w { C.w with drawn := C.w.drawn + 1 } := (Below.refl _ _).drew
            refine ⟨by simp, fun j o _ hl => ?_, fun d hd1 hdl => ?_, rfl, rfl, hbd, fun i o d _ _ _ hl => ?_, fun d _ => (ht.2 d).mono (Le.grow (B := B) hr.size hbd)⟩
            · rw [gf] at hl; cases hl
            · simp at hdl; simp [hdl]
            · rw [gf] at hl; cases hl
        · simp at he
      · simp at he
    · simp at hc
end
end Go.Proofs.Ytalhkhbdoinbdaa
