/- Two values held against one another. -/
import Derived.Test.YtjgnjpbplnmdmaaEng4
import Derived.ChangeKeysEq
namespace Go.Proofs.Ytjgnjpbplnmdmaa
open Go Go.RowKit

section
variable {P : Program} {o : Oper} {a : Act} {t : List LV} {h h' : List Row} {lim B : Nat} {C : Cx} {l : LV}

def eqVals : List Kd → List Value → List Value → Option Bool
  | [], [], [] => some true
  | k :: ks, x :: xs, y :: ys =>
    match eqAtom k x y, eqVals ks xs ys with
    | some a, some b => some (a && b)
    | _, _ => none
  | _, _, _ => none

theorem eqCells_vals : ∀ {ks : List Kd} {xs ys : List LV} {us vs : List Value} {q : Bool}, eqCells ks xs ys = some q → ConcL C xs us → ConcL C ys vs → eqVals ks us vs = some q
  | [], [], [], us, vs, q, he, hx, hy => by
    have h1 : us = [] := List.eq_nil_of_length_eq_zero hx.1.symm
    have h2 : vs = [] := List.eq_nil_of_length_eq_zero hy.1.symm
    subst h1; subst h2
    simpa [eqCells, eqVals] using he
  | k :: ks, .v x :: xs, .v y :: ys, us, vs, q, he, hx, hy => by
    cases us with
    | nil => have := hx.1; simp at this
    | cons u us =>
      cases vs with
      | nil => have := hy.1; simp at this
      | cons v vs =>
        have h1 := (hx.2 0 _ u rfl rfl).v_inv
        have h2 := (hy.2 0 _ v rfl rfl).v_inv
        subst h1; subst h2
        simp only [eqCells] at he
        split at he
        · rename_i p r e1 e2
          have := eqCells_vals e2 (us := us) (vs := vs) ⟨by have := hx.1; simpa using this, fun i c w f1 f2 => hx.2 (i + 1) c w (by simpa using f1) (by simpa using f2)⟩ ⟨by have := hy.1; simpa using this, fun i c w f1 f2 => hy.2 (i + 1) c w (by simpa using f1) (by simpa using f2)⟩
          simp only [eqVals, e1, this]
          exact he
        · simp at he
  | [], _ :: _, _, us, vs, q, he, hx, hy => by simp [eqCells] at he
  | [], [], _ :: _, us, vs, q, he, hx, hy => by simp [eqCells] at he
  | _ :: _, [], _, us, vs, q, he, hx, hy => by simp [eqCells] at he
  | _ :: _, x :: _, [], us, vs, q, he, hx, hy => by cases x <;> simp [eqCells] at he
  | _ :: _, .p _ _ _ :: _, _ :: _, us, vs, q, he, hx, hy => by simp [eqCells] at he
  | _ :: _, .f _ _ :: _, _ :: _, us, vs, q, he, hx, hy => by simp [eqCells] at he
  | _ :: _, .sl _ _ _ _ _ _ :: _, _ :: _, us, vs, q, he, hx, hy => by simp [eqCells] at he
  | _ :: _, .im _ _ _ :: _, _ :: _, us, vs, q, he, hx, hy => by simp [eqCells] at he
  | _ :: _, .pi _ :: _, _ :: _, us, vs, q, he, hx, hy => by simp [eqCells] at he
  | _ :: _, .agg _ :: _, _ :: _, us, vs, q, he, hx, hy => by simp [eqCells] at he
  | _ :: _, .tup _ :: _, _ :: _, us, vs, q, he, hx, hy => by simp [eqCells] at he
  | _ :: _, .ifc _ _ :: _, _ :: _, us, vs, q, he, hx, hy => by simp [eqCells] at he
  | _ :: _, .bad :: _, _ :: _, us, vs, q, he, hx, hy => by simp [eqCells] at he
  | _ :: _, .v _ :: _, .p _ _ _ :: _, us, vs, q, he, hx, hy => by simp [eqCells] at he
  | _ :: _, .v _ :: _, .f _ _ :: _, us, vs, q, he, hx, hy => by simp [eqCells] at he
  | _ :: _, .v _ :: _, .sl _ _ _ _ _ _ :: _, us, vs, q, he, hx, hy => by simp [eqCells] at he
  | _ :: _, .v _ :: _, .im _ _ _ :: _, us, vs, q, he, hx, hy => by simp [eqCells] at he
  | _ :: _, .v _ :: _, .pi _ :: _, us, vs, q, he, hx, hy => by simp [eqCells] at he
  | _ :: _, .v _ :: _, .agg _ :: _, us, vs, q, he, hx, hy => by simp [eqCells] at he
  | _ :: _, .v _ :: _, .tup _ :: _, us, vs, q, he, hx, hy => by simp [eqCells] at he
  | _ :: _, .v _ :: _, .ifc _ _ :: _, us, vs, q, he, hx, hy => by simp [eqCells] at he
  | _ :: _, .v _ :: _, .bad :: _, us, vs, q, he, hx, hy => by simp [eqCells] at he

theorem eqVals_length : ∀ {ks : List Kd} {us vs : List Value} {q : Bool}, eqVals ks us vs = some q → us.length = ks.length ∧ vs.length = ks.length
  | [], [], [], _, _ => ⟨rfl, rfl⟩
  | k :: ks, u :: us, v :: vs, q, he => by
    simp only [eqVals] at he
    split at he
    · rename_i p r e1 e2
      have := eqVals_length e2
      simp [this.1, this.2]
    · simp at he
  | [], _ :: _, _, q, he => by simp [eqVals] at he
  | [], [], _ :: _, q, he => by simp [eqVals] at he
  | _ :: _, [], _, q, he => by simp [eqVals] at he
  | _ :: _, _ :: _, [], q, he => by simp [eqVals] at he

theorem eqVals_append : ∀ {k1 k2 : List Kd} {us vs : List Value} {q : Bool}, eqVals (k1 ++ k2) us vs = some q →
    ∃ q1 q2, eqVals k1 (us.take k1.length) (vs.take k1.length) = some q1 ∧ eqVals k2 (us.drop k1.length) (vs.drop k1.length) = some q2 ∧ q = (q1 && q2)
  | [], k2, us, vs, q, he => ⟨true, q, by simp [eqVals], by simpa using he, by simp⟩
  | k :: k1, k2, [], vs, q, he => by simp [eqVals] at he
  | k :: k1, k2, u :: us, [], q, he => by simp [eqVals] at he
  | k :: k1, k2, u :: us, v :: vs, q, he => by
    simp only [List.cons_append, eqVals] at he
    split at he
    · rename_i p r e1 e2
      simp at he
      subst he
      obtain ⟨q1, q2, f1, f2, rfl⟩ := eqVals_append e2
      exact ⟨p && q1, q2, by simp [eqVals, e1, f1], by simpa using f2, by simp [Bool.and_assoc]⟩
    · simp at he

/-- A value of a type out of its cells. -/
def wrapV (n : Option Nat) (us : List Value) : Value := shaped n fun j => us.getD j undef

theorem shaped_take (n : Option Nat) (us : List Value) (off : Nat) (hn : off + n.getD 1 ≤ us.length) : shaped n (fun j => us.getD (off + j) undef) = wrapV n ((us.drop off).take (n.getD 1)) := by
  cases n with
  | none =>
    simp only [Option.getD_none] at hn
    simp [wrapV, shaped, List.getD, List.getElem?_drop]
  | some n =>
    simp only [wrapV, shaped, Option.getD_some]
    congr 2
    apply List.map_congr_left
    intro j hj
    have hj' : j < n := by simpa using hj
    simp [List.getD, List.getElem?_drop, hj']

theorem wrapV_agg (us : List Value) : wrapV (some us.length) us = .agg us.toArray := by
  simp only [wrapV, shaped]
  congr 2
  apply List.ext_getElem (by simp)
  intro i h1 h2
  simp at h1
  simp [h1]

theorem kindsT_shape {d : Nat} {ty : TypeId} {ks : List Kd} (hk : kindsT P d ty = some ks) (hs : sizeT P ty = some ks.length) : ∃ n, shapeT P ty = some n ∧ n.getD 1 = ks.length ∧ (n = none ∨ n = some ks.length) := by
  cases d with
  | zero => simp [kindsT] at hk
  | succ d =>
    simp only [kindsT] at hk
    cases hu : P.underlying ty with
    | none => simp [hu] at hk
    | some dd =>
      cases dd <;> simp only [hu] at hk <;> try (simp at hk; done)
      case bool => simp at hk; subst hk; exact ⟨none, by simp [shapeT, hu, hs], rfl, .inl rfl⟩
      case int k => simp at hk; subst hk; exact ⟨none, by simp [shapeT, hu, hs], rfl, .inl rfl⟩
      case string => simp at hk; subst hk; exact ⟨none, by simp [shapeT, hu, hs], rfl, .inl rfl⟩
      case struct fs => exact ⟨some ks.length, by simp [shapeT, hu, hs], rfl, .inr rfl⟩
      case array n e => exact ⟨some ks.length, by simp [shapeT, hu, hs], rfl, .inr rfl⟩

theorem run_eq_kinds (w : World) (j : Nat) : ∀ (d : Nat) (ty : TypeId) (ks : List Kd) (n : Option Nat) (us vs : List Value) (q : Bool), kindsT P d ty = some ks → sizeT P ty = some ks.length → shapeT P ty = some n → eqVals ks us vs = some q →
    (Op.equalIn (d + j) ty (wrapV n us) (wrapV n vs)).run P w = .ok q w := by
  intro d
  induction d with
  | zero => intro ty ks n us vs q hk; simp [kindsT] at hk
  | succ d ih =>
    intro ty ks n us vs q hk hs hn hq
    obtain ⟨hl1, hl2⟩ := eqVals_length hq
    -- one part held against another one
    have part_eq : ∀ (e : TypeId) (kk : List Kd) (off : Nat) (q1 : Bool), kindsT P d e = some kk → sizeT P e = some kk.length → off + kk.length ≤ us.length → off + kk.length ≤ vs.length →
        eqVals kk ((us.drop off).take kk.length) ((vs.drop off).take kk.length) = some q1 →
        ∃ x y, (part e us.toArray off).run P w = .ok x w ∧ (part e vs.toArray off).run P w = .ok y w ∧ (Op.equalIn (d + j) e x y).run P w = .ok q1 w := by
      intro e kk off q1 h1 h2 h3 h4 h5
      obtain ⟨m, g1, g2, _⟩ := kindsT_shape h1 h2
      refine ⟨_, _, run_part g1 us off (by omega) w, run_part g1 vs off (by omega) w, ?_⟩
      rw [shaped_take m us off (by omega), shaped_take m vs off (by omega), g2]
      exact ih e kk m _ _ q1 h1 h2 g1 h5
    have hD : d + 1 + j = (d + j) + 1 := by omega
    rw [hD]
    simp only [kindsT] at hk
    cases hu : P.underlying ty with
    | none => simp [hu] at hk
    | some dd =>
      have leaf : ∀ k, ks = [k] → n = none → ∃ u v, us = [u] ∧ vs = [v] ∧ eqAtom k u v = some q ∧ wrapV n us = u ∧ wrapV n vs = v := by
        intro k hks hnn
        subst hks; subst hnn
        match us, vs, hl1, hl2 with
        | [u], [v], _, _ =>
          refine ⟨u, v, rfl, rfl, ?_, rfl, rfl⟩
          simp only [eqVals] at hq
          split at hq
          · rename_i p r e1 e2; simp at e2; subst e2; simp at hq; rw [e1, hq]
          · simp at hq
      cases dd <;> simp only [hu] at hk <;> try (simp at hk; done)
      case bool =>
        simp at hk
        subst hk
        have hnn : n = none := by simp [shapeT, hu, hs] at hn; exact hn.symm
        obtain ⟨u, v, rfl, rfl, e1, e2, e3⟩ := leaf _ rfl hnn
        rw [e2, e3]
        cases u <;> cases v <;> simp [eqAtom] at e1
        subst e1
        exact run_equalIn_bool' w _ ty _ _ hu
      case int k =>
        simp at hk
        subst hk
        have hnn : n = none := by simp [shapeT, hu, hs] at hn; exact hn.symm
        obtain ⟨u, v, rfl, rfl, e1, e2, e3⟩ := leaf _ rfl hnn
        rw [e2, e3]
        cases u <;> cases v <;> simp [eqAtom] at e1
        obtain ⟨rfl, rfl⟩ := e1
        rw [run_equalIn_int w _ ty _ _ _ _ hu]
        congr 1
      case string =>
        simp at hk
        subst hk
        have hnn : n = none := by simp [shapeT, hu, hs] at hn; exact hn.symm
        obtain ⟨u, v, rfl, rfl, e1, e2, e3⟩ := leaf _ rfl hnn
        rw [e2, e3]
        cases u <;> cases v <;> simp [eqAtom] at e1
        subst e1
        rw [run_equalIn_string w _ ty _ _ hu]
        congr 1
        exact (beq_toListBytes _ _).symm
      case struct fs =>
        have hnn : n = some ks.length := by simp [shapeT, hu, hs] at hn; exact hn.symm
        subst hnn
        rw [show wrapV (some ks.length) us = .agg us.toArray by rw [← hl1]; exact wrapV_agg us, show wrapV (some ks.length) vs = .agg vs.toArray by rw [← hl2]; exact wrapV_agg vs]
        split at hk
        · rename_i hst
          have hfo : P.fieldsOf ty = fs := by simp [Program.fieldsOf, hu]
          rw [run_equalIn_struct w (d + j) ty _ _ (by rw [hfo]; exact hu) hst, hfo]
          have fields : ∀ (l : List Field) (off : Nat) (kk : List Kd) (q1 : Bool), kindsF P (kindsT P d) off l = some kk → off + kk.length = us.length → off + kk.length = vs.length →
              eqVals kk (us.drop off) (vs.drop off) = some q1 → (Op.eqFields (d + j) us.toArray vs.toArray l).run P w = .ok q1 w := by
            intro l
            induction l with
            | nil =>
              intro off kk q1 h1 h2 h3 h4
              simp [kindsF] at h1
              subst h1
              simp at h2 h3
              subst h2
              have e1 : us.drop us.length = [] := List.drop_length
              have e2 : vs.drop us.length = [] := by rw [h3]; exact List.drop_length
              rw [e1, e2] at h4
              simp [eqVals] at h4
              subst h4
              simp [Op.eqFields]
            | cons f l ihl =>
              intro off kk q1 h1 h2 h3 h4
              simp only [kindsF] at h1
              split at h1
              · rename_i kf hkf
                split at h1
                · rename_i hc
                  obtain ⟨c1, c2, c3⟩ := hc
                  split at h1
                  · rename_i kr hkr
                    simp at h1
                    subst h1
                    simp only [List.length_append] at h2 h3
                    obtain ⟨qa, qb, g1, g2, rfl⟩ := eqVals_append h4
                    obtain ⟨x, y, r1, r2, r3⟩ := part_eq f.type kf off qa hkf c3 (by omega) (by omega) g1
                    have rest := ihl (off + kf.length) kr qb hkr (by omega) (by omega) (by simpa [List.drop_drop] using g2)
                    simp only [Op.eqFields, c1, ne_eq, not_false_eq_true, if_true, c2, Sem.run_bind, r1, r2, r3, Result.andThen_ok]
                    cases qa
                    · simp
                    · simp [rest]
                  · simp at h1
                · simp at h1
              · simp at h1
          exact fields fs.toList 0 ks q hk (by omega) (by omega) (by simpa using hq)
        · simp at hk
      case array len e =>
        have hnn : n = some ks.length := by simp [shapeT, hu, hs] at hn; exact hn.symm
        subst hnn
        rw [show wrapV (some ks.length) us = .agg us.toArray by rw [← hl1]; exact wrapV_agg us, show wrapV (some ks.length) vs = .agg vs.toArray by rw [← hl2]; exact wrapV_agg vs]
        split at hk
        · rename_i kk hkk
          split at hk
          · rename_i hsz
            simp at hk
            subst hk
            obtain ⟨i, hi⟩ : ∃ i, P.info? e = some i := by
              unfold sizeT at hsz
              cases hi : P.info? e with
              | none => simp [hi] at hsz
              | some i => exact ⟨i, rfl⟩
            have hce : P.cellsOf e = kk.length := by
              unfold sizeT at hsz
              simp [hi] at hsz
              simp [Program.cellsOf, hi, hsz]
            rw [run_equalIn_array w (d + j) _ _ hu hi, hce]
            have items : ∀ (m i : Nat) (q1 : Bool), i + m = len → eqVals (List.replicate m kk).flatten (us.drop (i * kk.length)) (vs.drop (i * kk.length)) = some q1 →
                (Op.eqItems (d + j) e kk.length us.toArray vs.toArray (List.range' i m)).run P w = .ok q1 w := by
              intro m
              induction m with
              | zero =>
                intro i q1 h1 h2
                obtain ⟨e1, e2⟩ := eqVals_length h2
                simp at e1 e2
                have e1' : us.drop (i * kk.length) = [] := by simp; omega
                have e2' : vs.drop (i * kk.length) = [] := by simp; omega
                rw [e1', e2'] at h2
                simp [eqVals] at h2
                subst h2
                simp [Op.eqItems]
              | succ m ihm =>
                intro i q1 h1 h2
                have hlens := eqVals_length h2
                simp only [List.length_drop, List.length_flatten, List.map_replicate, List.sum_replicate_nat] at hlens
                rw [List.replicate_succ, List.flatten_cons] at h2
                obtain ⟨qa, qb, g1, g2, rfl⟩ := eqVals_append h2
                have hge : i * kk.length + kk.length ≤ us.length ∧ i * kk.length + kk.length ≤ vs.length := by
                  have := eqVals_length g1
                  simp only [List.length_take, List.length_drop] at this
                  by_cases hkk0 : kk.length = 0
                  · rw [hkk0]; simp
                  · omega
                obtain ⟨x, y, r1, r2, r3⟩ := part_eq e kk (i * kk.length) qa hkk hsz hge.1 hge.2 g1
                have rest := ihm (i + 1) qb (by omega) (by rw [Nat.succ_mul]; simpa [List.drop_drop] using g2)
                rw [List.range'_succ]
                simp only [Op.eqItems, Sem.run_bind, r1, r2, r3, Result.andThen_ok]
                cases qa
                · simp
                · simp [rest]
            rw [List.range_eq_range']
            exact items len 0 q (by omega) (by simpa using hq)
          · simp at hk
        · simp at hk

theorem kindsT_int {d : Nat} {ty : TypeId} {m : Nat} (hk : kindsT P (d + 1) ty = some [.i]) (hn : shapeT P ty = some none) (hs : sizeT P ty = some m) : ∃ k, P.underlying ty = some (.int k) := by
  simp only [kindsT] at hk
  cases hu : P.underlying ty with
  | none => simp [hu] at hk
  | some dd =>
    cases dd <;> simp only [hu] at hk <;> try (simp at hk; done)
    case int k => exact ⟨k, rfl⟩
    case struct fs => simp [shapeT, hu, hs] at hn
    case array n e => simp [shapeT, hu, hs] at hn

theorem run_equal_kinds (w : World) {ty : TypeId} {ks : List Kd} {n : Option Nat} {us vs : List Value} {q : Bool} (hk : kindsT P 50 ty = some ks) (hs : sizeT P ty = some ks.length) (hn : shapeT P ty = some n) (hq : eqVals ks us vs = some q) :
    (Op.equal ty (wrapV n us) (wrapV n vs)).run P w = .ok q w := run_eq_kinds w 9950 50 ty ks n us vs q hk hs hn hq

/-- '==' and '!=' of two such values. -/
theorem run_binOp_kinds (w : World) (neg : Bool) {ty : TypeId} {x y : Operand} {ks : List Kd} {n : Option Nat} {us vs : List Value} {q : Bool} (hk : kindsT P 50 ty = some ks) (hni : ∀ k, P.underlying ty ≠ some (.int k)) (hg : P.eqGuardType P.depth ty = false) (hs : sizeT P ty = some ks.length) (hn : shapeT P ty = some n) (hq : eqVals ks us vs = some q) :
    (do eqGuard (if neg then .neq else .eql) ty x y (wrapV n us) (wrapV n vs); binOp (if neg then .neq else .eql) ty (wrapV n us) (wrapV n vs)).run P w = .ok (.bool (if neg then !q else q)) w := by
  have he := run_equal_kinds w hk hs hn hq
  obtain ⟨m, g1, g2, g3⟩ := kindsT_shape hk hs
  rw [hn] at g1
  simp at g1
  subst g1
  obtain ⟨l1, l2⟩ := eqVals_length hq
  rcases g3 with rfl | rfl
  · simp only [Option.getD_none] at g2
    match ks, us, vs, g2, l1, l2 with
    | [k], [u], [v], _, _, _ =>
      simp only [eqVals] at hq
      split at hq
      · rename_i p r e1 e2
        simp at e2
        subst e2
        simp at hq
        subst hq
        have e3 : wrapV none [u] = u := rfl
        have e4 : wrapV none [v] = v := rfl
        rw [e3, e4] at he ⊢
        cases k <;> cases u <;> simp [eqAtom] at e1 <;> cases v <;> simp at e1
        · obtain ⟨k, hk'⟩ := kindsT_int hk hn hs
          exact (hni k hk').elim
        · cases neg <;> simp [eqGuard, binOp, he]
        · subst e1
          cases neg
          · simp [eqGuard, binOp, Op.stringOp, beq_toListBytes]
          · simp [eqGuard, binOp, Op.stringOp, beq_toListBytes]
      · simp at hq
  · rw [show wrapV (some ks.length) us = .agg us.toArray by rw [← l1]; exact wrapV_agg us, show wrapV (some ks.length) vs = .agg vs.toArray by rw [← l2]; exact wrapV_agg vs] at he ⊢
    have hgd := fun op => run_eqGuard_agg (P := P) w op ty x y us.toArray vs.toArray hg
    cases neg <;> simp [hgd, binOp, he]

theorem sound_eqv {neg : Bool} {ty u : TypeId} {x y : Operand} {mx my : MO} {ks : List Kd} {n : Option Nat} (ho : o.op = .binOp (if neg then .neq else .eql) ty x y u) (hk : kindsT P 50 ty = some ks) (hni : ∀ k, P.underlying ty ≠ some (.int k)) (hg : P.eqGuardType P.depth ty = false) (hs : sizeT P ty = some ks.length) (hn : shapeT P ty = some n)
    (hx : Conc C (ev t mx) (a.eval x)) (hy : Conc C (ev t my) (a.eval y)) (hr : Rel C B h)
    (he : evOp (.eqv neg n.isSome ks mx my) t h lim = some (l, h')) : Done P ((execOp a.eval o).run P C.w) (OpPost B lim C h true l h') := by
  have key : ∀ (us vs : List Value) (q : Bool), a.eval x = wrapV n us → a.eval y = wrapV n vs → eqVals ks us vs = some q → l = .v (.bool (if neg then !q else q)) → h' = h → Done P ((execOp a.eval o).run P C.w) (OpPost B lim C h true l h') := by
    intro us vs q h1 h2 h3 h4 h5
    subst h4; subst h5
    refine done_value hr (.v _) ?_
    have := run_binOp_kinds C.w neg (x := x) (y := y) hk hni hg hs hn h3
    simp only [execOp, ho, h1, h2, Sem.run_bind, this, Result.andThen_ok, Sem.run_pure]
  obtain ⟨m, g1, g2, g3⟩ := kindsT_shape hk hs
  rw [hn] at g1
  simp at g1
  subst g1
  simp only [evOp] at he
  split at he
  · rename_i xs ys e1 e2
    rw [e1] at hx
    rw [e2] at hy
    split at he
    · rename_i hag
      simp only [Option.map_eq_some_iff, Prod.mk.injEq] at he
      obtain ⟨q, hq, rfl, rfl⟩ := he
      obtain ⟨us, hu, hxu⟩ := hx.agg_inv
      obtain ⟨vs, hv, hyv⟩ := hy.agg_inv
      have hq' := eqCells_vals hq hxu hyv
      obtain ⟨l1, l2⟩ := eqVals_length hq'
      rcases g3 with rfl | rfl
      · simp at hag
      · exact key us vs q (by rw [hu, ← l1]; exact (wrapV_agg us).symm) (by rw [hv, ← l2]; exact (wrapV_agg vs).symm) hq' rfl rfl
    · simp at he
  · rename_i hno
    split at he
    · simp at he
    · rename_i hag
      simp only [Option.map_eq_some_iff, Prod.mk.injEq] at he
      obtain ⟨q, hq, rfl, rfl⟩ := he
      have hq' := eqCells_vals (us := [a.eval x]) (vs := [a.eval y]) hq ⟨rfl, fun i c u f1 f2 => by cases i <;> simp at f1 f2; subst f1; subst f2; exact hx⟩ ⟨rfl, fun i c u f1 f2 => by cases i <;> simp at f1 f2; subst f1; subst f2; exact hy⟩
      rcases g3 with rfl | rfl
      · exact key [a.eval x] [a.eval y] q rfl rfl hq' rfl rfl
      · simp at hag

theorem isNilC_spec {nk : Nat} {y : Operand} (h : isNilC nk y = true) : (nk = 0 ∧ y = .const (.slice none 0 0)) ∨ (nk = 1 ∧ y = .const .nilFunc) ∨ (nk = 2 ∧ y = .const .nilIface) ∨ (nk = 3 ∧ y = .const (.pointer none)) := by
  unfold isNilC at h
  split at h <;> simp at h <;> simp

theorem nilQ_spec {nk : Nat} {z : LV} {r : Bool} (h : nilQ nk z = some r) {u : Value} (hc : Conc C z u) :
    (nk = 0 ∧ ∃ ad n c, u = .slice ad n c ∧ ((r = true ∧ ad = none) ∨ (r = false ∧ ∃ b, ad = some b))) ∨ (nk = 1 ∧ ((r = true ∧ u = .nilFunc) ∨ (r = false ∧ ∃ f x y, u = .func f x y))) ∨ (nk = 2 ∧ ((r = true ∧ u = .nilIface) ∨ (r = false ∧ ∃ t x, u = .iface t x))) ∨ (nk = 3 ∧ ((r = true ∧ u = .pointer none) ∨ (r = false ∧ ∃ a, u = .pointer (some a)))) := by
  unfold nilQ at h
  split at h <;> simp at h <;> subst h
  · exact .inl ⟨rfl, none, 0, 0, hc.v_inv, .inl ⟨rfl, rfl⟩⟩
  · refine .inl ⟨rfl, ?_⟩
    cases hc with
    | sl h1 h2 h3 h4 => exact ⟨_, _, _, rfl, .inr ⟨rfl, _, rfl⟩⟩
    | slOld h1 h2 => exact ⟨_, _, _, rfl, .inr ⟨rfl, _, rfl⟩⟩
  · obtain ⟨b, q, c, us, hu, _⟩ := hc.im_inv
    exact .inl ⟨rfl, _, _, _, hu, .inr ⟨rfl, _, rfl⟩⟩
  · exact .inr (.inl ⟨rfl, .inl ⟨rfl, hc.v_inv⟩⟩)
  · cases hc with | f h1 h2 => exact .inr (.inl ⟨rfl, .inr ⟨rfl, _, _, _, rfl⟩⟩)
  · exact .inr (.inr (.inl ⟨rfl, .inl ⟨rfl, hc.v_inv⟩⟩))
  · cases hc with | ifc h1 => exact .inr (.inr (.inl ⟨rfl, .inr ⟨rfl, _, _, rfl⟩⟩))
  · exact .inr (.inr (.inr ⟨rfl, .inl ⟨rfl, hc.v_inv⟩⟩))
  · cases hc with
    | p h1 h2 => exact .inr (.inr (.inr ⟨rfl, .inr ⟨rfl, _, rfl⟩⟩))
    | pOld h1 h2 => exact .inr (.inr (.inr ⟨rfl, .inr ⟨rfl, _, rfl⟩⟩))
  · cases hc with | pi us h1 h2 => exact .inr (.inr (.inr ⟨rfl, .inr ⟨rfl, _, rfl⟩⟩))

theorem nilT_spec {ty : TypeId} {nk : Nat} (h : nilT P ty = some nk) : (nk = 0 ∧ ∃ e, P.underlying ty = some (.slice e)) ∨ (nk = 1 ∧ ∃ x y z, P.underlying ty = some (.func x y z)) ∨ (nk = 2 ∧ ∃ ms, P.underlying ty = some (.interface ms)) ∨ (nk = 3 ∧ ∃ e, P.underlying ty = some (.pointer e)) := by
  unfold nilT at h
  split at h <;> simp at h <;> subst h <;> rename_i hu <;> simp [hu]

theorem run_nil (w : World) (neg : Bool) {ty : TypeId} {nk : Nat} {r : Bool} (hty : nilT P ty = some nk) {u c : Value} (x y : Operand)
    (hc : (nk = 0 ∧ c = .slice none 0 0) ∨ (nk = 1 ∧ c = .nilFunc) ∨ (nk = 2 ∧ c = .nilIface) ∨ (nk = 3 ∧ c = .pointer none))
    (hu : (nk = 0 ∧ ∃ ad n k, u = .slice ad n k ∧ ((r = true ∧ ad = none) ∨ (r = false ∧ ∃ b, ad = some b))) ∨ (nk = 1 ∧ ((r = true ∧ u = .nilFunc) ∨ (r = false ∧ ∃ f x y, u = .func f x y))) ∨ (nk = 2 ∧ ((r = true ∧ u = .nilIface) ∨ (r = false ∧ ∃ t x, u = .iface t x))) ∨ (nk = 3 ∧ ((r = true ∧ u = .pointer none) ∨ (r = false ∧ ∃ a, u = .pointer (some a)))))
    (p q : Value) (hpq : (p = u ∧ q = c ∧ ∃ z, y = .const z) ∨ (p = c ∧ q = u ∧ ∃ z, x = .const z)) :
    (do eqGuard (if neg then .neq else .eql) ty x y p q; binOp (if neg then .neq else .eql) ty p q : Sem Value).run P w = .ok (.bool (if neg then !r else r)) w := by
  have fin : (∀ op, binOp op ty p q = match op with | .eql => (do pure (.bool (← Op.equal ty p q))) | .neq => (do pure (.bool (!(← Op.equal ty p q)))) | op => binOp op ty p q) → (∀ op, (eqGuard op ty x y p q).run P w = .ok () w) → (∀ d, (Op.equalIn (d + 1) ty p q).run P w = .ok r w) →
      (do eqGuard (if neg then .neq else .eql) ty x y p q; binOp (if neg then .neq else .eql) ty p q : Sem Value).run P w = .ok (.bool (if neg then !r else r)) w := by
    intro h1 h2 h3
    have h4 : (Op.equal ty p q).run P w = .ok r w := h3 9999
    cases neg
    · simp only [Bool.false_eq_true, if_false, Sem.run_bind, h2, Result.andThen_ok, h1 .eql, h4, Sem.run_pure]
    · simp only [if_true, Sem.run_bind, h2, Result.andThen_ok, h1 .neq, h4, Sem.run_pure]
  rcases nilT_spec hty with ⟨rfl, e, hund⟩ | ⟨rfl, x1, y1, z1, hund⟩ | ⟨rfl, ms, hund⟩ | ⟨rfl, e, hund⟩
  · have hc' : c = .slice none 0 0 := by rcases hc with ⟨_, h⟩ | ⟨h, _⟩ | ⟨h, _⟩ | ⟨h, _⟩ <;> first | exact h | cases h
    subst hc'
    rcases hu with ⟨_, ad, n, k, rfl, hr⟩ | ⟨h, _⟩ | ⟨h, _⟩ | ⟨h, _⟩
    · rcases hr with ⟨rfl, rfl⟩ | ⟨rfl, b, rfl⟩ <;> rcases hpq with ⟨rfl, rfl, _⟩ | ⟨rfl, rfl, _⟩ <;>
        exact fin (fun op => by cases op <;> rfl) (fun op => by cases op <;> rfl) (fun d => by simp only [Op.equalIn, Sem.run_bind, run_underlying hund, Result.andThen_ok]; rfl)
    · cases h
    · cases h
    · cases h
  · have hc' : c = .nilFunc := by rcases hc with ⟨h, _⟩ | ⟨_, h⟩ | ⟨h, _⟩ | ⟨h, _⟩ <;> first | exact h | cases h
    subst hc'
    rcases hu with ⟨h, _⟩ | ⟨_, hr⟩ | ⟨h, _⟩ | ⟨h, _⟩
    · cases h
    · rcases hr with ⟨rfl, rfl⟩ | ⟨rfl, f, x2, y2, rfl⟩ <;> rcases hpq with ⟨rfl, rfl, _⟩ | ⟨rfl, rfl, _⟩ <;>
        exact fin (fun op => by cases op <;> rfl) (fun op => by cases op <;> rfl) (fun d => by simp only [Op.equalIn, Sem.run_bind, run_underlying hund, Result.andThen_ok]; rfl)
    · cases h
    · cases h
  · have hc' : c = .nilIface := by rcases hc with ⟨h, _⟩ | ⟨h, _⟩ | ⟨_, h⟩ | ⟨h, _⟩ <;> first | exact h | cases h
    subst hc'
    rcases hu with ⟨h, _⟩ | ⟨h, _⟩ | ⟨_, hr⟩ | ⟨h, _⟩
    · cases h
    · cases h
    · rcases hr with ⟨rfl, rfl⟩ | ⟨rfl, f, x2, rfl⟩ <;> rcases hpq with ⟨rfl, rfl, z, rfl⟩ | ⟨rfl, rfl, z, rfl⟩ <;>
        exact fin (fun op => by cases op <;> rfl) (fun op => by cases op <;> first | rfl | simp [eqGuard]) (fun d => by simp only [Op.equalIn, Sem.run_bind, run_underlying hund, Result.andThen_ok]; rfl)
    · cases h
  · have hc' : c = .pointer none := by rcases hc with ⟨h, _⟩ | ⟨h, _⟩ | ⟨h, _⟩ | ⟨_, h⟩ <;> first | exact h | cases h
    subst hc'
    rcases hu with ⟨h, _⟩ | ⟨h, _⟩ | ⟨h, _⟩ | ⟨_, hr⟩
    · cases h
    · cases h
    · cases h
    · rcases hr with ⟨rfl, rfl⟩ | ⟨rfl, a, rfl⟩ <;> rcases hpq with ⟨rfl, rfl, z, rfl⟩ | ⟨rfl, rfl, z, rfl⟩ <;>
        exact fin (fun op => by cases op <;> rfl) (fun op => by cases op <;> first | rfl | simp [eqGuard]) (fun d => by simp only [Op.equalIn, Sem.run_bind, run_underlying hund, Result.andThen_ok]; rfl)

theorem sound_eqn {neg : Bool} {ty u : TypeId} {x y z : Operand} {mz : MO} {nk : Nat} (ho : o.op = .binOp (if neg then .neq else .eql) ty x y u) (hnil : nilT P ty = some nk) (hz : (isNilC nk y = true ∧ z = x) ∨ (isNilC nk x = true ∧ z = y))
    (hx : Conc C (ev t mz) (a.eval z)) (hr : Rel C B h)
    (he : evOp (.eqn neg nk mz) t h lim = some (l, h')) : Done P ((execOp a.eval o).run P C.w) (OpPost B lim C h true l h') := by
  simp only [evOp, Option.map_eq_some_iff, Prod.mk.injEq] at he
  obtain ⟨r, hq, rfl, rfl⟩ := he
  refine done_value hr (.v _) ?_
  have hu := nilQ_spec hq hx
  have fin : ∀ c, ((nk = 0 ∧ c = .slice none 0 0) ∨ (nk = 1 ∧ c = .nilFunc) ∨ (nk = 2 ∧ c = .nilIface) ∨ (nk = 3 ∧ c = .pointer none)) →
      ((a.eval x = a.eval z ∧ a.eval y = c ∧ ∃ q, y = .const q) ∨ (a.eval x = c ∧ a.eval y = a.eval z ∧ ∃ q, x = .const q)) → (execOp a.eval o).run P C.w = .ok (.value (.bool (if neg then !r else r))) C.w := by
    intro c hc hpq
    have := run_nil C.w neg hnil x y hc hu (a.eval x) (a.eval y) hpq
    simp only [execOp, ho, Sem.run_bind] at this ⊢
    rw [this]
    simp
  rcases hz with ⟨h1, rfl⟩ | ⟨h1, rfl⟩
  · rcases isNilC_spec h1 with ⟨rfl, rfl⟩ | ⟨rfl, rfl⟩ | ⟨rfl, rfl⟩ | ⟨rfl, rfl⟩
    · exact fin _ (.inl ⟨rfl, rfl⟩) (.inl ⟨rfl, rfl, _, rfl⟩)
    · exact fin _ (.inr (.inl ⟨rfl, rfl⟩)) (.inl ⟨rfl, rfl, _, rfl⟩)
    · exact fin _ (.inr (.inr (.inl ⟨rfl, rfl⟩))) (.inl ⟨rfl, rfl, _, rfl⟩)
    · exact fin _ (.inr (.inr (.inr ⟨rfl, rfl⟩))) (.inl ⟨rfl, rfl, _, rfl⟩)
  · rcases isNilC_spec h1 with ⟨rfl, rfl⟩ | ⟨rfl, rfl⟩ | ⟨rfl, rfl⟩ | ⟨rfl, rfl⟩
    · exact fin _ (.inl ⟨rfl, rfl⟩) (.inr ⟨rfl, rfl, _, rfl⟩)
    · exact fin _ (.inr (.inl ⟨rfl, rfl⟩)) (.inr ⟨rfl, rfl, _, rfl⟩)
    · exact fin _ (.inr (.inr (.inl ⟨rfl, rfl⟩))) (.inr ⟨rfl, rfl, _, rfl⟩)
    · exact fin _ (.inr (.inr (.inr ⟨rfl, rfl⟩))) (.inr ⟨rfl, rfl, _, rfl⟩)
end
end Go.Proofs.Ytjgnjpbplnmdmaa
