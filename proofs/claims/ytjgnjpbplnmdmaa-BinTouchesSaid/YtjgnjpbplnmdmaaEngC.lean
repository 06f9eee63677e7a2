/- Regions whose head makes rows and writes: what comes at any time looks at what was there, what writes comes in its place. -/
import Derived.Test.YtjgnjpbplnmdmaaEngB
namespace Go.Proofs.Ytjgnjpbplnmdmaa
open Go Go.RowKit

theorem memN_spec : ∀ {l : List Nat} {k : Nat}, memN l k = true ↔ k ∈ l
  | [], k => by simp [memN]
  | x :: l, k => by
    simp only [memN, Bool.or_eq_true, decide_eq_true_eq, memN_spec (l := l), List.mem_cons]
    exact or_congr eq_comm Iff.rfl

theorem disj_spec : ∀ {ks ms : List Nat}, disj ks ms = true → ∀ k ∈ ks, k ∉ ms
  | [], ms, _, k, hk => by simp at hk
  | x :: ks, ms, h, k, hk => by
    simp only [disj, Bool.and_eq_true, Bool.not_eq_true'] at h
    rcases List.mem_cons.1 hk with rfl | hk
    · intro hm
      rw [memN_spec.2 hm] at h
      simp at h
    · exact disj_spec h.2 k hk

theorem eqV_eq {x y : Value} (h : eqV x y = true) : x = y := by
  unfold eqV at h
  split at h <;> try (simp_all; done)
  rename_i a b
  obtain ⟨a⟩ := a
  obtain ⟨b⟩ := b
  simpa using h
mutual
theorem eqLV_eq : ∀ {x y : LV}, eqLV x y = true → x = y := by
  intro x y h
  unfold eqLV at h
  split at h
  · rw [eqV_eq h]
  · simp only [Bool.and_eq_true, decide_eq_true_eq] at h
    obtain ⟨⟨rfl, rfl⟩, rfl⟩ := h; rfl
  · simp only [Bool.and_eq_true, decide_eq_true_eq] at h
    obtain ⟨rfl, h⟩ := h; rw [eqLs_eq h]
  · simp only [Bool.and_eq_true, decide_eq_true_eq] at h
    obtain ⟨⟨⟨⟨⟨rfl, rfl⟩, rfl⟩, rfl⟩, rfl⟩, rfl⟩ := h; rfl
  · simp only [Bool.and_eq_true, decide_eq_true_eq, beq_iff_eq] at h
    obtain ⟨⟨h, rfl⟩, rfl⟩ := h; rw [eqLs_eq h]
  · rw [eqLs_eq h]
  · rw [eqLs_eq h]
  · rw [eqLs_eq h]
  · simp only [Bool.and_eq_true, decide_eq_true_eq] at h
    obtain ⟨rfl, h⟩ := h; rw [eqLV_eq h]
  · rfl
  · cases h
theorem eqLs_eq : ∀ {l m : List LV}, eqLs l m = true → l = m := by
  intro l m h
  unfold eqLs at h
  split at h
  · rfl
  · simp only [Bool.and_eq_true] at h
    rw [eqLV_eq h.1, eqLs_eq h.2]
  · cases h
end
theorem turnK_spec {h h' : List Row} {k : Nat} (ht : turnK h h' k = true) : h'[k]? = h[k]? := by
  unfold turnK at ht
  split at ht
  · rename_i r r' e1 e2
    simp only [Bool.and_eq_true, decide_eq_true_eq] at ht
    rw [e1, e2]
    obtain ⟨v, cs⟩ := r
    obtain ⟨v', cs'⟩ := r'
    simp only at ht
    rw [ht.1, eqLs_eq ht.2]
  · cases ht

theorem okRM1_spec {w : List Nat} {ms : Option (List Nat)} {h h' : List Row} : ∀ {rs : LogR}, okRM1 w ms h h' rs = true → ∀ i ks, (i, ks) ∈ rs → i ∈ w ∨ ((∀ k ∈ ks, h'[k]? = h[k]?) ∨ ∃ m, ms = some m ∧ ∀ k ∈ ks, k ∉ m)
  | [], _, i, ks, h => by simp at h
  | (j, qs) :: rs, ho, i, ks, hm => by
    simp only [okRM1, Bool.and_eq_true, Bool.or_eq_true] at ho
    rcases List.mem_cons.1 hm with hm | hm
    · cases hm
      rcases ho.1 with ho | ho
      · exact .inl (memN_spec.1 ho)
      · cases ms with
        | none => exact .inr (.inl fun k hk => turnK_spec (List.all_eq_true.1 ho k hk))
        | some m => exact .inr (.inr ⟨m, rfl, disj_spec ho⟩)
    · exact okRM1_spec ho.2 i ks hm

theorem okRM_spec {rs : LogR} : ∀ {l : LogM}, okRM rs l = true → ∀ w ms h h', (w, ms, h, h') ∈ l → ∀ i ks, (i, ks) ∈ rs → i ∈ w ∨ ((∀ k ∈ ks, h'[k]? = h[k]?) ∨ ∃ m, ms = some m ∧ ∀ k ∈ ks, k ∉ m)
  | [], _, w, ms, _, _, h => by simp at h
  | (w', ms', _, _) :: l, ho, w, ms, h, h', hm => by
    simp only [okRM, Bool.and_eq_true] at ho
    rcases List.mem_cons.1 hm with hm | hm
    · cases hm; exact okRM1_spec ho.1
    · exact okRM_spec ho.2 w ms h h' hm

section
variable {cal : Callee} {lim : Nat} {h h' h1 : List Row} {t t' : List LV}

theorem quiet_form {op : MOp} (hq : quietOp op = true) (h1 : ∀ a n, op ≠ .ld a n) (h2 : ∀ a lo hi mx e, op ≠ .slc a lo hi mx e) (t : List LV) (h : List Row) (lim : Nat) : evOp op t h lim = ((evOp op t [] 0).map Prod.fst).map fun x => (x, h) := by
  cases op <;> first
    | (simp [quietOp] at hq; done)
    | exact absurd rfl (h1 _ _)
    | exact absurd rfl (h2 _ _ _ _ _)
    | (simp only [evOp]; (repeat' split) <;> first | rfl | (simp only [Option.map_map]; rfl))

theorem row_agree {k ver : Nat} {cs : List LV} (hk : ∀ r, h[k]? = some r → h'[k]? = some r) (hr : rowOf h k ver = some cs) : rowOf h' k ver = some cs := by
  unfold rowOf at hr ⊢
  cases hh : h[k]? with
  | none => rw [hh] at hr; simp at hr
  | some r => rw [hh] at hr; rw [hk r hh]; exact hr

theorem callG_agree {g : FuncId} {as : List LV} {x : LV} (hc : closedL as = true) (he : callG cal true lim h g as = some (x, h1)) : callG cal true lim h' g as = some (x, h') := by
  simp only [callG, callQ, hc, if_true] at he ⊢
  split at he
  · rename_i r0 h0 hcal
    split at he
    · rename_i hcl
      simp only [Option.some.injEq, Prod.mk.injEq] at he
      rw [he.1] at hcl ⊢
      simp only [hcl, if_true]
    · simp at he
  · simp at he

theorem evAny_agree {op : MOp} {x : LV} {ks : List Nat} (hq : quietOp op = true) (hr : rdsMI op t = some ks) (hk : ∀ k ∈ ks, ∀ r, h[k]? = some r → h'[k]? = some r) (he : evAny cal true lim op t h = some (x, h1)) : evAny cal true lim op t h' = some (x, h') := by
  by_cases hld : ∃ a n, op = .ld a n
  · obtain ⟨a, n, rfl⟩ := hld
    simp only [evAny, evOp, rdsMI] at he hr ⊢
    generalize ev t a = lv at he hr
    cases lv <;> simp only at he hr ⊢
    case p k ver off =>
      simp only [Option.some.injEq] at hr
      subst hr
      simp only [Option.map_eq_some_iff, Option.bind_eq_some_iff, Prod.mk.injEq] at he
      obtain ⟨z, ⟨cs, hrow, hrd⟩, rfl, rfl⟩ := he
      simp [row_agree (hk k (by simp)) hrow, hrd]
    case pi cs =>
      simp only [Option.map_eq_some_iff, Prod.mk.injEq] at he
      obtain ⟨z, hz, rfl, rfl⟩ := he
      simp [hz]
    all_goals simp at he
  · by_cases hsl : ∃ a lo hi mx e, op = .slc a lo hi mx e
    · obtain ⟨a, lo, hi, mx, e, rfl⟩ := hsl
      simp only [evAny, evOp, rdsMI] at he hr ⊢
      split at he
      · rename_i i j z hi' hj' hz'
        simp only [Option.map_eq_some_iff, Prod.mk.injEq] at he
        obtain ⟨r, hp, rfl, rfl⟩ := he
        simp only [Option.map_eq_some_iff, Prod.mk.injEq, and_true]
        refine ⟨r, ?_, rfl⟩
        generalize ev t a = lv at hp hr
        cases lv with
        | sl k ver off len esz cap =>
          simp only [Option.some.injEq] at hr
          subst hr
          simp only [partE] at hp ⊢
          split at hp
          · rename_i cs hrow
            rw [row_agree (hk k (by simp)) hrow]
            exact hp
          · simp at hp
        | v y => cases y <;> first | exact hp | (rename_i ad l c; cases ad <;> cases l <;> cases c <;> exact hp)
        | _ => exact hp
      · simp at he
    · by_cases hcl : ∃ f args, op = .call f args
      · obtain ⟨f, args, rfl⟩ := hcl
        simp only [evAny, evCall, rdsMI] at he hr ⊢
        generalize ev t f = lv at he hr
        cases lv <;> simp only at he hr ⊢
        case f g cap =>
          split at hr
          · rename_i hc; exact callG_agree hc he
          · simp at hr
        all_goals simp at hr
      · by_cases hiv : ∃ tab a args, op = .inv tab a args
        · obtain ⟨tab, a, args, rfl⟩ := hiv
          simp only [evAny, evInv, rdsMI] at he hr ⊢
          generalize ev t a = lv at he hr
          cases lv <;> simp only at he hr ⊢
          case ifc d y =>
            split at hr
            · rename_i hc
              split at he
              · exact callG_agree hc he
              · simp at he
            · simp at hr
          all_goals simp at hr
        · have e1 : ∀ h, evAny cal true lim op t h = evOp op t h lim := by
            intro h
            cases op <;> first | rfl | exact absurd ⟨_, _, rfl⟩ hcl | exact absurd ⟨_, _, _, rfl⟩ hiv
          have h1 : ∀ a n, op ≠ .ld a n := fun a n hh => hld ⟨a, n, hh⟩
          have h2 : ∀ a lo hi mx e, op ≠ .slc a lo hi mx e := fun a lo hi mx e hh => hsl ⟨a, lo, hi, mx, e, hh⟩
          rw [e1, quiet_form hq h1 h2] at he
          rw [e1, quiet_form hq h1 h2]
          simp only [Option.map_eq_some_iff, Prod.mk.injEq, and_true] at he ⊢
          obtain ⟨y, hy, rfl, rfl⟩ := he
          exact ⟨y, hy, rfl⟩

theorem evMI_agree {m : MI} {ks : List Nat} (hq : quietOp m.op = true) (hr : rdsMI m.op t = some ks) (hk : ∀ k ∈ ks, ∀ r, h[k]? = some r → h'[k]? = some r) (he : evMI cal true lim m (t, h) = some (t', h1)) : evMI cal true lim m (t, h') = some (t', h') := by
  simp only [evMI] at he ⊢
  split at he
  · rename_i hw
    split at he
    · rename_i x h2 hev
      simp only [Option.some.injEq, Prod.mk.injEq] at he
      rw [evAny_agree hq hr hk hev]
      simp only [he.1]
    · simp at he
  · simp only [Option.some.injEq, Prod.mk.injEq, and_true] at he ⊢
    exact he.1
  · simp at he

theorem evMI_frame {m : MI} {ms : List Nat} (hm : mutsMI cal h m.op t = some ms) (he : evMI cal false lim m (t, h) = some (t', h')) {k : Nat} {r : Row} (hk : h[k]? = some r) (hn : k ∉ ms) : h'[k]? = some r := by
  have hlt : k < h.length := (List.getElem?_eq_some_iff.1 hk).1
  have hset : ∀ (j : Nat) (r' : Row), k ≠ j → (h.set j r')[k]? = some r := fun j r' hj => by rw [List.getElem?_set, if_neg (fun hh => hj hh.symm)]; exact hk
  have happ : ∀ (l : List Row), (h ++ l)[k]? = some r := fun l => by rw [List.getElem?_append_left hlt]; exact hk
  simp only [evMI] at he
  split at he
  · split at he
    · rename_i x h2 hev
      simp only [Option.some.injEq, Prod.mk.injEq] at he
      obtain ⟨rfl, rfl⟩ := he
      generalize m.op = op at hm hev
      by_cases hq : quietOp op = true ∧ (∀ a n, op ≠ .ld a n) ∧ (∀ a lo hi mx e, op ≠ .slc a lo hi mx e) ∧ (∀ f args, op ≠ .call f args) ∧ (∀ tab a args, op ≠ .inv tab a args)
      · obtain ⟨q1, q2, q3, q4, q5⟩ := hq
        have e1 : evAny cal false lim op t h = evOp op t h lim := by
          cases op <;> first | rfl | exact absurd rfl (q4 _ _) | exact absurd rfl (q5 _ _ _)
        rw [e1, quiet_form q1 q2 q3] at hev
        simp only [Option.map_eq_some_iff, Prod.mk.injEq] at hev
        obtain ⟨_, _, _, rfl⟩ := hev
        exact hk
      · cases op <;> simp only [mutsMI] at hm
        case ld a n =>
          simp only [evAny, evOp] at hev
          split at hev
          · simp only [Option.map_eq_some_iff, Prod.mk.injEq] at hev
            obtain ⟨_, _, _, rfl⟩ := hev; exact hk
          · simp only [Option.map_eq_some_iff, Prod.mk.injEq] at hev
            obtain ⟨_, _, _, rfl⟩ := hev; exact hk
          · simp at hev
        case slc a lo hi mx e =>
          simp only [evAny, evOp] at hev
          split at hev
          · simp only [Option.map_eq_some_iff, Prod.mk.injEq] at hev
            obtain ⟨_, _, _, rfl⟩ := hev; exact hk
          · simp at hev
        case box a =>
          simp only [evAny, evOp] at hev
          split at hev
          · simp only [Option.some.injEq, Prod.mk.injEq] at hev
            obtain ⟨_, rfl⟩ := hev; exact happ _
          · simp at hev
        case st a b n =>
          simp only [evAny, evOp] at hev
          generalize ev t a = lv at hev hm
          cases lv <;> simp only at hev hm <;> try (simp at hev; done)
          simp only [Option.some.injEq] at hm
          subst hm
          split at hev
          · simp at hev
          · split at hev
            · split at hev
              · simp only [Option.some.injEq, Prod.mk.injEq] at hev
                obtain ⟨_, rfl⟩ := hev; exact hset _ _ (by simpa using hn)
              · simp at hev
            · simp at hev
        case clr a z e =>
          simp only [evAny, evOp] at hev
          generalize ev t a = lv at hev hm
          cases lv <;> simp only at hev hm
          case sl =>
            simp only [Option.some.injEq] at hm
            subst hm
            split at hev
            · simp at hev
            · split at hev
              · split at hev
                · simp only [Option.some.injEq, Prod.mk.injEq] at hev
                  obtain ⟨_, rfl⟩ := hev; exact hset _ _ (by simpa using hn)
                · simp at hev
              · simp at hev
          all_goals first
            | (simp at hev; done)
            | (split at hev <;> first
                | (simp only [Option.some.injEq, Prod.mk.injEq] at hev; obtain ⟨_, rfl⟩ := hev; exact hk)
                | (simp at hev; done)
                | (simp at *; done))
        case bst a =>
          simp only [evAny, evOp] at hev
          generalize ev t a = lv at hev hm
          split at hev
          · split at hev
            · split at hev
              · simp only [Option.map_eq_some_iff, Prod.mk.injEq] at hev
                obtain ⟨_, _, _, rfl⟩ := hev; exact hk
              · simp at hev
            · simp at hev
          · simp only [Option.some.injEq, Prod.mk.injEq] at hev
            obtain ⟨_, rfl⟩ := hev; exact hk
          · simp at hev
        case mks a b z e by' =>
          simp only [evAny, evOp] at hev
          split at hev
          · split at hev
            · simp only [Option.some.injEq, Prod.mk.injEq] at hev
              obtain ⟨_, rfl⟩ := hev; exact happ _
            · simp at hev
          · simp at hev
        case app a b e by' =>
          simp only [evAny, evOp] at hev
          split at hev
          · rename_i new mm hnew
            generalize ev t a = lv at hev hm
            unfold appE at hev
            split at hev
            · split at hev
              · simp only [Option.some.injEq, Prod.mk.injEq] at hev
                obtain ⟨_, rfl⟩ := hev; exact hk
              · split at hev
                · simp only [Option.some.injEq, Prod.mk.injEq] at hev
                  obtain ⟨_, rfl⟩ := hev; exact happ _
                · simp at hev
            · simp only [Option.some.injEq] at hm
              subst hm
              split at hev
              · simp at hev
              · split at hev
                · split at hev
                  · simp only [Option.some.injEq, Prod.mk.injEq] at hev
                    obtain ⟨_, rfl⟩ := hev; exact hset _ _ (by simpa using hn)
                  · split at hev
                    · simp only [Option.some.injEq, Prod.mk.injEq] at hev
                      obtain ⟨_, rfl⟩ := hev; exact hset _ _ (by simpa using hn)
                    · simp at hev
                · simp at hev
            · split at hev
              · simp only [Option.some.injEq, Prod.mk.injEq] at hev
                obtain ⟨_, rfl⟩ := hev; exact hk
              · split at hev
                · simp only [Option.some.injEq, Prod.mk.injEq] at hev
                  obtain ⟨_, rfl⟩ := hev; exact happ _
                · simp at hev
            · simp at hev
          · simp at hev
        case call f args =>
          simp only [evAny, evCall] at hev
          generalize ev t f = lv at hev hm
          cases lv <;> simp only at hev hm <;> try (simp at hev; done)
          split at hm
          · rename_i x' hiso
            obtain ⟨r', rows⟩ := x'
            simp only [callG, Bool.false_eq_true, if_false, hiso, Option.some.injEq, Prod.mk.injEq] at hev
            obtain ⟨_, rfl⟩ := hev
            exact happ _
          · simp at hm
        case inv tab a args =>
          simp only [evAny, evInv] at hev
          generalize ev t a = lv at hev hm
          cases lv <;> simp only at hev hm <;> try (simp at hev; done)
          split at hm
          · rename_i g hg
            rw [hg] at hev
            simp only at hev
            split at hm
            · rename_i x' hiso
              obtain ⟨r', rows⟩ := x'
              simp only [callG, Bool.false_eq_true, if_false, hiso, Option.some.injEq, Prod.mk.injEq] at hev
              obtain ⟨_, rfl⟩ := hev
              exact happ _
            · simp at hm
          · simp at hm
        all_goals exact absurd ⟨rfl, fun _ _ => by simp, fun _ _ _ _ _ => by simp, fun _ _ => by simp, fun _ _ _ => by simp⟩ hq
    · simp at he
  · simp only [Option.some.injEq, Prod.mk.injEq] at he
    obtain ⟨_, rfl⟩ := he
    exact hk
  · simp at he
end

section
variable {B lim : Nat} {h : List Row} {D : Cx}

/-- A row that was not there yet comes to be. -/
def Cx.fill (D : Cx) (r : Nat) (us : Array Value) (ty : TypeId) : Cx := ⟨D.ρ.set r (some (D.w.heap.size, 0)), D.vs, D.X, D.w.alloc (.cells us ty (0, 0))⟩

theorem fill_get {r : Nat} {us : Array Value} {ty : TypeId} (hh : D.ρ[r]? = some none) {k : Nat} {x : Option (Nat × Nat)} (hk : (D.fill r us ty).ρ[k]? = some x) : (k = r ∧ x = some (D.w.heap.size, 0)) ∨ (k ≠ r ∧ D.ρ[k]? = some x) := by
  have hl : r < D.ρ.length := (List.getElem?_eq_some_iff.1 hh).1
  have e : (D.ρ.set r (some (D.w.heap.size, 0)))[k]? = some x := hk
  rw [List.getElem?_set] at e
  by_cases hkr : r = k
  · subst hkr; simp [hl] at e; exact .inl ⟨rfl, e.symm⟩
  · rw [if_neg hkr] at e; exact .inr ⟨fun h => hkr h.symm, e⟩

theorem fill_old {r : Nat} {us : Array Value} {ty : TypeId} {k : Nat} {x : Option (Nat × Nat)} (hkr : k ≠ r) (hk : D.ρ[k]? = some x) : (D.fill r us ty).ρ[k]? = some x := by
  show (D.ρ.set r _)[k]? = _
  rw [List.getElem?_set, if_neg (fun h => hkr h.symm)]; exact hk

theorem Rel.fill {r : Nat} {cs : List LV} {us : Array Value} {ty : TypeId} (hr : Rel D B h) (hh : D.ρ[r]? = some none) (hrow : h[r]? = some ⟨0, cs⟩) (hc : ConcL D cs us.toList) :
    Rel (D.fill r us ty) B h ∧ Mo D (D.fill r us ty) ∧ (∀ C : Cx, C.ρ.length ≤ r → Le B C D → Le B C (D.fill r us ty)) ∧ (∀ C : Cx, Fr lim C D → Fr lim C (D.fill r us ty)) := by
  have hbelow : Below D.w.heap.size D.w (D.w.alloc (.cells us ty (0, 0))) := (Below.refl _ _).alloc (Nat.le_refl _) _
  have hold : ∀ (k b q : Nat), D.ρ[k]? = some (some (b, q)) → b < D.w.heap.size := by
    intro k b q hk
    have hlt : k < h.length := by rw [← hr.len]; exact (List.getElem?_eq_some_iff.1 hk).1
    obtain ⟨_, us, tt, e, _⟩ := hr.row k b q h[k] hk (by simp [hlt])
    exact (Array.getElem?_eq_some_iff.1 e).1
  have hroom : ∀ b n, b < D.w.heap.size → room D.w b n → room (D.fill r us ty).w b n := by
    intro b n hb ⟨vs, tt, e, hs⟩
    exact ⟨vs, tt, by show (D.w.alloc _).heap[b]? = _; rw [hbelow.block b hb]; exact e, hs⟩
  have hne : ∀ {k b q : Nat}, D.ρ[k]? = some (some (b, q)) → k ≠ r := fun {k b q} hk hkr => by subst hkr; rw [hh] at hk; cases hk
  have hclt : ∀ (b off : Nat) u, D.w.cell? ⟨b, off, none⟩ = some u → b < D.w.heap.size := fun b off u e3 => by
    rcases Nat.lt_or_ge b D.w.heap.size with h | h
    · exact h
    · unfold World.cell? at e3
      simp [Array.getElem?_eq_none h] at e3
  have hown : ∀ b, b < D.w.heap.size → (D.fill r us ty).own b → D.own b := by
    rintro b hb ⟨k, q, e⟩
    rcases fill_get hh e with ⟨_, h⟩ | ⟨_, h⟩
    · cases h; omega
    · exact ⟨k, q, h⟩
  have hmo : Mo D (D.fill r us ty) := by
    refine ⟨fun k ver b q e1 e2 => .inl ⟨fill_old (hne e1) e1, e2, fun n hn => hroom b n (hold _ _ _ e1) hn⟩, fun k cur e => ⟨cur, e, Nat.le_refl _⟩, fun b off u e1 e2 e3 => ?_⟩
    have hlt := hclt b off u e3
    exact ⟨(hbelow.cell (p := ⟨b, off, none⟩) hlt).trans e3, fun ho => e1 (hown b hlt ho), e2⟩
  refine ⟨⟨by show (D.ρ.set r _).length = _; simp [hr.len], hr.vs, ?_, ?_, fun b hx => ⟨Nat.lt_of_lt_of_le (hr.X b hx).1 hbelow.size, fun ho => (hr.X b hx).2 (hown b (hr.X b hx).1 ho)⟩, Nat.le_trans hr.size hbelow.size⟩, hmo, ?_, ?_⟩
  · intro k k' b q q' e1 e2
    rcases fill_get hh e1 with ⟨a1, a2⟩ | ⟨a1, a2⟩ <;> rcases fill_get hh e2 with ⟨c1, c2⟩ | ⟨c1, c2⟩
    · rw [a1, c1]
    · cases a2; have := hold _ _ _ c2; omega
    · cases c2; have := hold _ _ _ a2; omega
    · exact hr.inj k k' b q q' a2 c2
  · intro k b q rr e1 e2
    rcases fill_get hh e1 with ⟨a1, a2⟩ | ⟨a1, a2⟩
    · subst a1
      cases a2
      rw [hrow] at e2
      cases e2
      refine ⟨hr.size, us, ty, ?_, by simpa using Nat.le_of_eq hc.1, fun i c hi => ?_⟩
      · show (D.w.heap.push _)[D.w.heap.size]? = _
        simp
      · have hi' : cs[i]? = some c := hi
        have hlt : i < us.size := by
          have := (List.getElem?_eq_some_iff.1 hi').1
          have := hc.1
          simp at *
          omega
        exact ⟨us[i], by simp [hlt], (hc.2 i c us[i] hi' (by simp [hlt])).mo hmo⟩
    · obtain ⟨x1, vs, tt, x2, x3, x4⟩ := hr.row k b q rr a2 e2
      refine ⟨x1, vs, tt, ?_, x3, fun i c hi => ?_⟩
      · show (D.w.alloc _).heap[b]? = _
        rw [hbelow.block b (hold _ _ _ a2)]; exact x2
      · obtain ⟨u, y1, y2⟩ := x4 i c hi
        exact ⟨u, y1, y2.mo hmo⟩
  · intro C hlen hle
    refine ⟨hle.X, fun k ver b q e1 e2 => ?_, hle.old, fun b off u e1 e2 e3 => ?_, hle.below.trans (hbelow.mono hr.size), fun k e => ?_⟩
    · rcases hle.cur k ver b q e1 e2 with ⟨x1, x2, x3⟩ | hx
      · exact .inl ⟨fill_old (hne x1) x1, x2, fun n hn => hroom b n (hold _ _ _ x1) (x3 n hn)⟩
      · exact .inr hx
    · obtain ⟨x1, x2⟩ := hle.cell b off u e1 e2 e3
      have hlt := hclt b off u x1
      exact ⟨(hbelow.cell (p := ⟨b, off, none⟩) hlt).trans x1, fun ho => x2 (hown b hlt ho)⟩
    · have hk : k < C.ρ.length := (List.getElem?_eq_some_iff.1 e).1
      exact fill_old (by omega) (hle.hole k e)
  · intro C hfr
    refine ⟨fun b hb hno => ?_, fun k b q e1 e2 e3 => ?_, Nat.le_trans hfr.size hbelow.size⟩
    · show (D.w.alloc _).heap[b]? = _
      rw [hbelow.block b (Nat.lt_of_lt_of_le hb hfr.size)]
      exact hfr.same b hb hno
    · rcases fill_get hh e2 with ⟨_, h⟩ | ⟨_, h⟩
      · cases h; have := hfr.size; omega
      · exact hfr.old k b q e1 h e3
end

theorem mks_inv {P : Program} {o : Oper} {mx my : MO} {z : List LV} {esz bytes : Nat} (hm : cOp P o = some (.mks mx my z esz bytes)) : ∃ ty x y e zz i, o.op = .makeSlice ty x y ∧ P.underlying ty = some (.slice e) ∧ zeroT P e = some zz ∧ P.info? e = some i ∧ zz.cells.length = i.size ∧ 0 < i.size ∧ cO x = some mx ∧ cO y = some my ∧ z = zz.cells ∧ esz = i.size ∧ bytes = i.bytes := by
  replace hm := (cOp_cases hm).resolve_right (by simp)
  cases ho : o.op <;> simp only [cOp0, ho] at hm <;> try (first | (simp at hm; done) | (simp only [Option.map_eq_some_iff] at hm; obtain ⟨_, _, hh⟩ := hm; cases hh; done))
  case makeSlice ty x y =>
    split at hm <;> try (simp at hm; done)
    rename_i e hu
    split at hm <;> try (simp at hm; done)
    rename_i zz i hz hi
    split at hm <;> try (simp at hm; done)
    rename_i hc
    split at hm <;> try (simp at hm; done)
    rename_i mx' my' h1 h2
    simp only [Option.some.injEq, MOp.mks.injEq] at hm
    obtain ⟨rfl, rfl, rfl, rfl, rfl⟩ := hm
    exact ⟨ty, x, y, e, zz, i, rfl, hu, hz, hi, hc.1, hc.2, h1, h2, rfl, rfl, rfl⟩
  case pick => simp [Option.bind_eq_some_iff] at hm
  case slice ty x lo hi mx =>
    split at hm <;> try (simp at hm; done)
    all_goals (split at hm <;> simp [Option.bind_eq_some_iff] at hm)
  case sliceToArrayPointer => split at hm <;> simp at hm
  case typeAssert =>
    split at hm <;> try (simp at hm; done)
    split at hm <;> simp at hm
  case build ty ps => split at hm <;> try (simp at hm; done)
                      all_goals (split at hm <;> simp at hm)
  case buildSlice => split at hm <;> try (simp at hm; done)
                     split at hm <;> try (simp at hm; done)
  case load => simp [Option.bind_eq_some_iff] at hm
  case store => simp [Option.bind_eq_some_iff] at hm
  case fieldAddr => split at hm <;> simp [Option.bind_eq_some_iff] at hm
  case field => split at hm <;> simp [Option.bind_eq_some_iff] at hm
  case indexAddr => split at hm <;> simp [Option.bind_eq_some_iff] at hm
  case index => split at hm <;> simp [Option.bind_eq_some_iff] at hm
  case binOp op ty x y u =>
    split at hm
    · simp [Option.bind_eq_some_iff] at hm
    · split at hm <;> try (simp at hm; done)
      all_goals (
        unfold cEq at hm
        split at hm
        · split at hm <;> try (simp at hm; done)
          split at hm <;> simp at hm
        · split at hm <;> try (simp at hm; done)
          split at hm <;> simp at hm)
  case convert => split at hm <;> try (simp at hm; done)
                  split at hm <;> simp at hm
  case makeInterface => split at hm <;> simp at hm
  case makeFunc fn _ _ => cases fn <;> simp at hm
  case call c =>
    obtain ⟨callee, args, argT⟩ := c
    cases callee with
    | value f => simp [Option.bind_eq_some_iff] at hm
    | invoke r n => simp [Option.bind_eq_some_iff] at hm
    | builtin b =>
      cases b <;> simp at hm
      case append =>
        obtain ⟨_, _, _, _, _, _, _, _, _, _, _, _, _, _, _, _, hh⟩ := cApp_inv hm
        cases hh
      case clear =>
        split at hm <;> try (simp at hm; done)
        split at hm <;> try (simp at hm; done)
      split at hm <;> simp at hm
end Go.Proofs.Ytjgnjpbplnmdmaa
