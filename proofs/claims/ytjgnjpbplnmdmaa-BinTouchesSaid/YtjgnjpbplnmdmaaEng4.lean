/- The other operations that call nothing. -/
import Derived.Test.YtjgnjpbplnmdmaaEng3
namespace Go.Proofs.Ytjgnjpbplnmdmaa
open Go Go.RowKit

section
variable {P : Program} {o : Oper} {a : Act} {t : List LV} {h h' : List Row} {lim B : Nat} {C : Cx} {l : LV}

theorem run_eqGuard_int (op : BinOp) (ty : TypeId) (x y : Operand) (k k' : IntKind) (m n : Int) (w : World) : (eqGuard op ty x y (.int k m) (.int k' n)).run P w = .ok () w := by
  cases op <;> simp [eqGuard]

theorem run_binOp_int {op : BinOp} {k k' : IntKind} {m n : Int} {r : Value} (ty : TypeId) (he : evBin op k m k' n = some r) (w : World) : (binOp op ty (.int k m) (.int k' n)).run P w = .ok r w := by
  cases op <;> simp only [evBin] at he
  case shl =>
    split at he
    · simp at he
    · rename_i hn; simp at he; subst he; simp [binOp, Op.shift, hn]
  case shr =>
    split at he
    · simp at he
    · rename_i hn; simp at he; subst he; simp [binOp, Op.shift, hn]
  case quo =>
    split at he
    · rename_i hk
      subst hk
      split at he
      · simp at he
      · rename_i hn; simp at he; subst he; simp [binOp, Op.intDiv, hn]
    · simp at he
  case rem =>
    split at he
    · rename_i hk
      subst hk
      split at he
      · simp at he
      · rename_i hn; simp at he; subst he; simp [binOp, Op.intDiv, hn]
    · simp at he
  case and => split at he <;> simp at he; rename_i hk; subst hk; subst he; simp [binOp, intBits_and]
  case or => split at he <;> simp at he; rename_i hk; subst hk; subst he; simp [binOp, intBits_or]
  case xor => split at he <;> simp at he; rename_i hk; subst hk; subst he; simp [binOp, intBits_xor]
  case andNot => split at he <;> simp at he; rename_i hk; subst hk; subst he; simp [binOp, intBits_andNot]
  case add => split at he <;> simp at he; rename_i hk; subst hk; subst he; simp [binOp, Op.intArith]
  case sub => split at he <;> simp at he; rename_i hk; subst hk; subst he; simp [binOp, Op.intArith]
  case mul => split at he <;> simp at he; rename_i hk; subst hk; subst he; simp [binOp, Op.intArith]
  case eql =>
    split at he <;> simp at he; rename_i hk; subst hk; subst he
    simp only [binOp, Op.intCmp, ne_eq, not_true_eq_false, if_false, Sem.run_pure]
    by_cases hmn : m = n <;> simp [hmn]
  case neq =>
    split at he <;> simp at he; rename_i hk; subst hk; subst he
    simp only [binOp, Op.intCmp, ne_eq, not_true_eq_false, if_false, Sem.run_pure]
    by_cases hmn : m = n <;> simp [hmn]
  case lss => split at he <;> simp at he; rename_i hk; subst hk; subst he; simp [binOp, Op.intCmp]
  case leq => split at he <;> simp at he; rename_i hk; subst hk; subst he; simp [binOp, Op.intCmp]
  case gtr => split at he <;> simp at he; rename_i hk; subst hk; subst he; simp [binOp, Op.intCmp]
  case geq => split at he <;> simp at he; rename_i hk; subst hk; subst he; simp [binOp, Op.intCmp]

theorem sound_bin {op : BinOp} {ty u : TypeId} {x y : Operand} {mx my : MO} (ho : o.op = .binOp op ty x y u) (hx : Conc C (ev t mx) (a.eval x)) (hy : Conc C (ev t my) (a.eval y)) (hr : Rel C B h)
    (he : evOp (.bin op mx my) t h lim = some (l, h')) : Done P ((execOp a.eval o).run P C.w) (OpPost B lim C h true l h') := by
  simp only [evOp] at he
  generalize hl : ev t mx = lv at hx he
  generalize hl' : ev t my = lw at hy he
  cases lv with
  | v z =>
    cases z with
    | int k m =>
      cases lw with
      | v z' =>
        cases z' with
        | int k' n =>
          simp only [Option.map_eq_some_iff, Prod.mk.injEq] at he
          obtain ⟨r, hb, rfl, rfl⟩ := he
          refine done_value hr (.v r) ?_
          simp [execOp, ho, hx.v_inv, hy.v_inv, run_eqGuard_int, run_binOp_int ty hb]
        | _ => simp at he
      | _ => simp at he
    | _ => simp at he
  | _ => simp at he

theorem sound_un {op : UnOp} {ty : TypeId} {x : Operand} {mx : MO} (ho : o.op = .unOp op ty x) (hx : Conc C (ev t mx) (a.eval x)) (hr : Rel C B h)
    (he : evOp (.un op mx) t h lim = some (l, h')) : Done P ((execOp a.eval o).run P C.w) (OpPost B lim C h true l h') := by
  simp only [evOp, Option.map_eq_some_iff, Prod.mk.injEq] at he
  obtain ⟨z, hz, rfl, rfl⟩ := he
  generalize hl : ev t mx = lv at hx hz
  cases lv with
  | v q =>
    have hv := hx.v_inv
    cases q with
    | int k n =>
      cases op <;> simp [evUn] at hz <;> subst hz
      · exact done_value hr (.v _) (by simp [execOp, ho, hv, Op.unary, Op.intArith])
      · exact done_value hr (.v _) (by simp [execOp, ho, hv, Op.unary, intBits_xor])
    | bool q =>
      cases op <;> simp [evUn] at hz
      subst hz
      exact done_value hr (.v _) (by simp [execOp, ho, hv, Op.unary])
    | _ => simp [evUn] at hz
  | _ => simp [evUn] at hz

theorem sound_conv {s d : TypeId} {k k0 : IntKind} {x : Operand} {mx : MO} (ho : o.op = .convert s d x) (hs : P.underlying s = some (.int k0)) (hd : P.underlying d = some (.int k)) (hx : Conc C (ev t mx) (a.eval x)) (hr : Rel C B h)
    (he : evOp (.conv k mx) t h lim = some (l, h')) : Done P ((execOp a.eval o).run P C.w) (OpPost B lim C h true l h') := by
  simp only [evOp] at he
  generalize hl : ev t mx = lv at hx he
  cases lv with
  | v q =>
    cases q with
    | int k1 n =>
      simp at he
      obtain ⟨rfl, rfl⟩ := he
      exact done_value hr (.v _) (by simp [execOp, ho, hx.v_inv, convert, run_underlying hs, run_underlying hd, Conv.intToInt])
    | _ => simp at he
  | _ => simp at he

theorem sound_ext {x : Operand} {i : Nat} {mx : MO} (ho : o.op = .extract x i) (hx : Conc C (ev t mx) (a.eval x)) (hr : Rel C B h)
    (he : evOp (.ext mx i) t h lim = some (l, h')) : Done P ((execOp a.eval o).run P C.w) (OpPost B lim C h true l h') := by
  simp only [evOp] at he
  generalize hl : ev t mx = lv at hx he
  cases lv with
  | tup cs =>
    simp only [Option.map_eq_some_iff, Prod.mk.injEq] at he
    obtain ⟨z, hz, rfl, rfl⟩ := he
    obtain ⟨us, hus, h1, h2⟩ := hx.tup_inv
    have hlt : i < us.length := by rw [← h1]; exact (List.getElem?_eq_some_iff.1 hz).1
    exact done_value hr (h2 i z us[i] hz (List.getElem?_eq_getElem hlt)) (by simp [execOp, ho, hus, Instr.extract, hlt])
  | _ => simp at he

theorem mapO_spec {α β : Type} {f : α → Option β} : ∀ {l : List α} {m : List β}, mapO f l = some m → l.length = m.length ∧ ∀ (i : Nat) x y, l[i]? = some x → m[i]? = some y → f x = some y
  | [], m, hm => by simp [mapO] at hm; subst hm; exact ⟨rfl, fun i x y hx => by simp at hx⟩
  | z :: l, m, hm => by
    unfold mapO at hm
    split at hm
    · rename_i y m' h1 h2
      simp at hm
      subst hm
      obtain ⟨e1, e2⟩ := mapO_spec h2
      refine ⟨by simp [e1], fun i x y hx hy => ?_⟩
      cases i with
      | zero => simp at hx hy; subst hx; subst hy; exact h1
      | succ i => exact e2 i x y (by simpa using hx) (by simpa using hy)
    · simp at hm

theorem mapO_map {α β : Type} {f : α → Option β} {l : List α} {m : List β} (h : mapO f l = some m) : l.map f = m.map some := by
  obtain ⟨h1, h2⟩ := mapO_spec h
  apply List.ext_getElem (by simpa using h1)
  intro i hi1 hi2
  simp at hi1 hi2
  simp [h2 i l[i] m[i] (by simp [hi1]) (by simp [hi2])]

/-- Operands that stand for values, one by one. -/
theorem cOs_conc {xs : List Operand} {ys : List MO} (hc : cOs xs = some ys) (hx : ∀ x ∈ xs, ∀ y, cO x = some y → Conc C (ev t y) (a.eval x)) : ConcL C (ys.map (ev t)) (xs.map a.eval) := by
  obtain ⟨h1, h2⟩ := mapO_spec hc
  refine ⟨by simp [h1], fun i c u e1 e2 => ?_⟩
  simp at e1 e2
  obtain ⟨y, hy, rfl⟩ := e1
  obtain ⟨x, hx', rfl⟩ := e2
  exact hx x (List.mem_of_getElem? hx') y (h2 i x y hx' hy)

theorem sound_mkf {f : FuncId} {first cap : Array Operand} {ys : List MO} (ho : o.op = .makeFunc (.func f) first cap) (hf : first.isEmpty = true) (hc : cOs cap.toList = some ys)
    (hx : ∀ x ∈ cap.toList, ∀ y, cO x = some y → Conc C (ev t y) (a.eval x)) (hr : Rel C B h)
    (he : evOp (.mkf f ys) t h lim = some (l, h')) : Done P ((execOp a.eval o).run P C.w) (OpPost B lim C h true l h') := by
  simp [evOp] at he
  obtain ⟨rfl, rfl⟩ := he
  obtain ⟨h1, h2⟩ := cOs_conc hc hx
  have hf' : first = #[] := by simpa using hf
  refine done_value hr (Conc.f h1 h2) ?_
  simp [execOp, ho, hf', Instr.makeFunc]
  rw [← Array.toList_map]

theorem sound_ifc {ty : TypeId} {d : TypeDesc} {x : Operand} {mx : MO} (ho : o.op = .makeInterface ty x) (hd : P.underlying ty = some d) (hd' : ∀ ms, d ≠ .interface ms) (hx : Conc C (ev t mx) (a.eval x)) (hr : Rel C B h)
    (he : evOp (.ifc ty mx) t h lim = some (l, h')) : Done P ((execOp a.eval o).run P C.w) (OpPost B lim C h true l h') := by
  simp [evOp] at he
  obtain ⟨rfl, rfl⟩ := he
  refine done_value hr (.ifc hx) ?_
  have : (Instr.makeInterface ty (a.eval x)).run P C.w = .ok (.iface ty (a.eval x)) C.w := by
    unfold Instr.makeInterface
    simp only [Sem.run_bind, run_underlying hd, Result.andThen_ok]
    cases d <;> first | rfl | exact (hd' _ rfl).elim
  simp [execOp, ho, this]

theorem sound_nilc {x : Operand} {mx : MO} (ho : o.op = .nilCheck x) (hx : Conc C (ev t mx) (a.eval x)) (hr : Rel C B h)
    (he : evOp (.nilc mx) t h lim = some (l, h')) : Done P ((execOp a.eval o).run P C.w) (OpPost B lim C h true l h') := by
  have key : ∀ z : LV, ev t mx = z → (∀ u, Conc C z u → (∀ (w : World), (execOp (fun _ => u) { o with op := .nilCheck x }).run P w = .ok (.value u) w)) → l = z ∧ h' = h → Done P ((execOp a.eval o).run P C.w) (OpPost B lim C h true l h') := by
    intro z hz hz' hl
    obtain ⟨rfl, rfl⟩ := hl
    rw [hz] at hx
    refine done_value hr hx ?_
    have := hz' _ hx C.w
    simpa [execOp, ho] using this
  simp only [evOp] at he
  generalize hl : ev t mx = lv at he
  cases lv <;> simp at he
  case p k ver off => exact key _ hl (fun u hu w => by cases hu <;> simp [execOp]) ⟨he.1.symm, he.2.symm⟩
  case pi cs => exact key _ hl (fun u hu w => by cases hu; simp [execOp]) ⟨he.1.symm, he.2.symm⟩
  case f fn cap => exact key _ hl (fun u hu w => by cases hu; simp [execOp]) ⟨he.1.symm, he.2.symm⟩
  case ifc ty z => exact key _ hl (fun u hu w => by cases hu; simp [execOp]) ⟨he.1.symm, he.2.symm⟩

theorem sound_len {ty e : TypeId} {x : Operand} {mx : MO} {args : Array Operand} {argT : Array TypeId} (ho : o.op = .call { callee := .builtin .len, args := args, argTypes := argT }) (ha : args.toList = [x]) (hty : argT[0]? = some ty) (hd : P.underlying ty = some (.slice e))
    (hx : Conc C (ev t mx) (a.eval x)) (hr : Rel C B h) (he : evOp (.len mx) t h lim = some (l, h')) : Done P ((execOp a.eval o).run P C.w) (OpPost B lim C h true l h') := by
  have ha' : args = #[x] := by rw [← Array.toArray_toList (xs := args), ha]
  subst ha'
  have hrun : ∀ ad n c, a.eval x = .slice ad n c → (execOp a.eval o).run P C.w = .ok (.value (.int .i64 n)) C.w := by
    intro ad n c hs
    simp [execOp, ho, resolve, invoke, builtin, Builtin.len_, hty, hs, run_underlying hd, goInt]
  simp only [evOp] at he
  generalize hl : ev t mx = lv at hx he
  cases lv with
  | v q =>
    cases q with
    | slice ad n c =>
      simp at he
      obtain ⟨rfl, rfl⟩ := he
      exact done_value hr (.v _) (hrun _ _ _ hx.v_inv)
    | _ => simp at he
  | sl k ver off len esz =>
    simp at he
    obtain ⟨rfl, rfl⟩ := he
    refine done_value hr (.v (.int .i64 len)) ?_
    generalize hu : a.eval x = u at hx
    cases hx with
    | sl e1 e2 e3 e4 => exact hrun _ _ _ hu
    | slOld e1 e2 => exact hrun _ _ _ hu
  | im cs len full =>
    simp at he
    obtain ⟨rfl, rfl⟩ := he
    obtain ⟨b, q, c, us, hu, _⟩ := hx.im_inv
    exact done_value hr (.v (.int .i64 len)) (hrun _ _ _ hu)
  | _ => simp at he

theorem sound_lenS {ty : TypeId} {x : Operand} {mx : MO} {args : Array Operand} {argT : Array TypeId} (ho : o.op = .call { callee := .builtin .len, args := args, argTypes := argT }) (ha : args.toList = [x]) (hty : argT[0]? = some ty) (hd : P.underlying ty = some .string)
    (hx : Conc C (ev t mx) (a.eval x)) (hr : Rel C B h) (he : evOp (.lenS mx) t h lim = some (l, h')) : Done P ((execOp a.eval o).run P C.w) (OpPost B lim C h true l h') := by
  have ha' : args = #[x] := by rw [← Array.toArray_toList (xs := args), ha]
  subst ha'
  simp only [evOp] at he
  generalize hl : ev t mx = lv at hx he
  cases lv with
  | v q =>
    cases q with
    | string s =>
      simp at he
      obtain ⟨rfl, rfl⟩ := he
      exact done_value hr (.v _) (by simp [execOp, ho, resolve, invoke, builtin, Builtin.len_, hty, hx.v_inv, run_underlying hd, goInt])
    | _ => simp at he
  | _ => simp at he

theorem mm_run (isMax : Bool) (w : World) : ∀ (rest : List LV) (us : List Value) (x : LV) (u : Value) (r : LV), ConcL C rest us → Conc C x u → mmInt isMax x rest = some r →
    ∃ v, (us.foldlM (if isMax then Builtin.max2 else Builtin.min2) u).run P w = .ok v w ∧ Conc C r v
  | [], us, x, u, r, hr, hx, he => by
    have : us = [] := List.eq_nil_of_length_eq_zero hr.1.symm
    subst this
    cases x <;> simp [mmInt] at he <;> subst he <;> exact ⟨u, rfl, hx⟩
  | y :: rest, us, x, u, r, hr, hx, he => by
    cases us with
    | nil => have := hr.1; simp at this
    | cons v us =>
      have hy : Conc C y v := hr.2 0 y v rfl rfl
      have hrest : ConcL C rest us := ⟨by have := hr.1; simpa using this, fun i c w e1 e2 => hr.2 (i + 1) c w (by simpa using e1) (by simpa using e2)⟩
      cases x with
      | v q =>
        cases q with
        | int k m =>
          cases y with
          | v q' =>
            cases q' with
            | int k' n =>
              simp only [mmInt] at he
              have h1 := hx.v_inv
              have h2 := hy.v_inv
              subst h1
              subst h2
              have := mm_run isMax w rest us _ _ r hrest (.v _) he
              obtain ⟨v, h3, h4⟩ := this
              refine ⟨v, ?_, h4⟩
              cases isMax <;> simpa [List.foldlM_cons, Builtin.max2, Builtin.min2] using h3
            | _ => simp [mmInt] at he
          | _ => simp [mmInt] at he
        | _ => simp [mmInt] at he
      | _ => simp [mmInt] at he

theorem sound_mm {isMax : Bool} {args : Array Operand} {argT : Array TypeId} {ys : List MO} (ho : o.op = .call { callee := .builtin (if isMax then .max else .min), args := args, argTypes := argT }) (hc : cOs args.toList = some ys)
    (hx : ∀ x ∈ args.toList, ∀ y, cO x = some y → Conc C (ev t y) (a.eval x)) (hr : Rel C B h)
    (he : evOp (.mm isMax ys) t h lim = some (l, h')) : Done P ((execOp a.eval o).run P C.w) (OpPost B lim C h true l h') := by
  have hL := cOs_conc hc hx
  simp only [evOp] at he
  split at he
  · simp at he
  · rename_i x rest hys
    simp only [Option.map_eq_some_iff, Prod.mk.injEq] at he
    obtain ⟨r, hm, rfl, rfl⟩ := he
    rw [hys] at hL
    cases hvs : args.toList.map a.eval with
    | nil => rw [hvs] at hL; have := hL.1; simp at this
    | cons u us =>
      rw [hvs] at hL
      obtain ⟨v, h1, h2⟩ := mm_run (P := P) isMax C.w rest us x u r ⟨by have := hL.1; simpa using this, fun i c w e1 e2 => hL.2 (i + 1) c w (by simpa using e1) (by simpa using e2)⟩ (hL.2 0 x u rfl rfl) hm
      refine done_value hr h2 ?_
      cases isMax
      · simp only [Bool.false_eq_true, if_false] at ho h1
        simp [execOp, ho, resolve, invoke, builtin, Builtin.min_, hvs, h1]
      · simp only [if_true] at ho h1
        simp [execOp, ho, resolve, invoke, builtin, Builtin.max_, hvs, h1]

/-! ### values that are built -/

theorem fold_set (cs : List Value) (off : Nat) : ∀ (vs : List Value) (i : Nat), off + i + vs.length ≤ cs.length →
    ((vs.zipIdx i).foldl (fun (cs : Array Value) (p : Value × Nat) => cs.setIfInBounds (off + p.2) p.1) cs.toArray).toList = cs.take (off + i) ++ vs ++ cs.drop (off + i + vs.length) := by
  intro vs
  induction vs generalizing cs with
  | nil => intro i h; simp
  | cons v vs ih =>
    intro i h
    simp only [List.length_cons] at h
    simp only [List.zipIdx_cons, List.foldl_cons, List.setIfInBounds_toArray]
    rw [ih (cs.set (off + i) v) (i + 1) (by simp; omega)]
    rw [show off + (i + 1) = off + i + 1 by omega]
    have := list_seg_step cs (off + i) v vs (by omega)
    rw [List.length_cons]
    rw [← this]

theorem fill_conc {place : Nat → Option (Nat × Nat)} : ∀ (ps : List (Nat × Operand)) (ms : List (Nat × Nat × MO)) (cs : List LV) (us : List Value) (cs' : List LV),
    ps.length = ms.length → (∀ (i : Nat) p m, ps[i]? = some p → ms[i]? = some m → place p.1 = some (m.1, m.2.1) ∧ Conc C (ev t m.2.2) (a.eval p.2)) →
    ConcL C cs us → fillP t cs ms = some cs' →
    ∃ us', Instr.fill place us.toArray (ps.map fun p => (p.1, a.eval p.2)) = some us'.toArray ∧ ConcL C cs' us'
  | [], [], cs, us, cs', _, _, hc, hf => by
    simp [fillP] at hf
    subst hf
    exact ⟨us, rfl, hc⟩
  | [], m :: ms, cs, us, cs', hlen, _, _, _ => by simp at hlen
  | p :: ps, [], cs, us, cs', hlen, _, _, _ => by simp at hlen
  | p :: ps, m :: ms, cs, us, cs', hlen, hp, hc, hf => by
    obtain ⟨off, n, x⟩ := m
    obtain ⟨h1, h2⟩ := hp 0 p (off, n, x) rfl rfl
    simp only [fillP] at hf
    split at hf
    · rename_i hcond
      obtain ⟨hn, hoff, hall⟩ := hcond
      obtain ⟨⟨e1, e2⟩, e3⟩ := h2.cells hall
      have hsz : (a.eval p.2).cells.size = n := by rw [← hn]; simpa using e1.symm
      have hnew : ConcL C (putR cs off (ev t x).cells) (us.take off ++ (a.eval p.2).cells.toList ++ us.drop (off + (a.eval p.2).cells.toList.length)) := by
        refine ⟨by rw [putR_length _ _ _ (by omega)]; simp only [List.length_append, List.length_take, List.length_drop, Array.length_toList, hsz]; have := hc.1; omega, fun i c u f1 f2 => ?_⟩
        unfold putR at f1
        rw [seg_get _ _ _ (by omega)] at f1
        rw [seg_get _ _ _ (by simp only [Array.length_toList, hsz]; have := hc.1; omega)] at f2
        by_cases hin : off ≤ i ∧ i < off + (ev t x).cells.length
        · rw [if_pos hin] at f1
          rw [if_pos (by simp only [Array.length_toList, hsz]; omega)] at f2
          exact e2 _ _ _ f1 f2
        · rw [if_neg hin] at f1
          rw [if_neg (by simp only [Array.length_toList, hsz]; omega)] at f2
          exact hc.2 _ _ _ f1 f2
      obtain ⟨us', g1, g2⟩ := fill_conc ps ms _ _ cs' (by simpa using hlen) (fun i q m f1 f2 => hp (i + 1) q m (by simpa using f1) (by simpa using f2)) hnew hf
      refine ⟨us', ?_, g2⟩
      simp only [List.map_cons, Instr.fill, h1]
      have hcsz : us.toArray.size = us.length := by simp
      rw [if_neg (by rw [hsz, hcsz]; have := hc.1; simp; omega)]
      rw [← g1]
      congr 1
      have := fold_set us off (a.eval p.2).cells.toList 0 (by simp only [Array.length_toList, hsz]; have := hc.1; omega)
      simp only [Nat.add_zero] at this
      rw [← Array.toArray_toList (xs := Array.foldl _ _ _)]
      rw [← this]
      congr 1
      rw [← Array.foldl_toList]
      simp
    · simp at hf

theorem run_fieldsP (w : World) : ∀ (fs : List Field) (pl : List (Nat × Nat)), fieldsP P fs = some pl → (fs.mapM fun (f : Field) => do pure (f.offset, ← sizeOf f.type)).run P w = .ok pl w
  | [], pl, hp => by simp [fieldsP, mapO] at hp; subst hp; rfl
  | f :: fs, pl, hp => by
    unfold fieldsP mapO at hp
    split at hp
    · rename_i y m h1 h2
      simp at hp
      subst hp
      cases hz : sizeT P f.type with
      | none => simp [hz] at h1
      | some n =>
        simp [hz] at h1
        subst h1
        have ih := run_fieldsP w fs m h2
        simp only [List.mapM_cons, Sem.run_bind, run_sizeT hz, Result.andThen_ok, Sem.run_pure, ih]
    · simp at hp

theorem liftV_cells (v : Value) : ConcL C (liftV v).cells v.cells.toList := by
  cases v with
  | agg us =>
    obtain ⟨vs, h1, h2⟩ := (liftV_conc (C := C) (.agg us)).agg_inv
    simp at h1
    subst h1
    simpa [liftV, LV.cells, Value.cells] using h2
  | _ =>
    refine ⟨rfl, fun i c u h1 h2 => ?_⟩
    cases i with
    | zero => simp [liftV, LV.cells, Value.cells] at h1 h2; subst h1; subst h2; exact .v _
    | succ i => simp [liftV, LV.cells] at h1

theorem sound_bldS {ty : TypeId} {fs : Array Field} {ps : Array (Nat × Operand)} {z : LV} {pl : List (Nat × Nat)} {ms : List (Nat × Nat × MO)} (ho : o.op = .build ty ps) (hu : P.underlying ty = some (.struct fs)) (hz : zeroT P ty = some z) (hpl : fieldsP P fs.toList = some pl) (hm : mapO (placeP pl) ps.toList = some ms)
    (hx : ∀ p ∈ ps.toList, ∀ y, cO p.2 = some y → Conc C (ev t y) (a.eval p.2)) (hr : Rel C B h) (he : evOp (.bld z.cells ms) t h lim = some (l, h')) : Done P ((execOp a.eval o).run P C.w) (OpPost B lim C h true l h') := by
  simp only [evOp, Option.map_eq_some_iff, Prod.mk.injEq] at he
  obtain ⟨cs, hf, rfl, rfl⟩ := he
  obtain ⟨v, hv, rfl⟩ := zeroT_run hz C.w
  obtain ⟨m1, m2⟩ := mapO_spec hm
  obtain ⟨us, g1, g2⟩ := fill_conc (C := C) (a := a) (place := fun i => pl[i]?) ps.toList ms _ v.cells.toList cs m1 (fun i p m e1 e2 => by
    have := m2 i p m e1 e2
    unfold placeP at this
    split at this
    · rename_i q x h1 h2
      simp at this
      subst this
      exact ⟨h1, hx p (List.mem_of_getElem? e1) x h2⟩
    · simp at this) (liftV_cells v) hf
  have hpr : (fs.mapM fun (f : Field) => do pure (f.offset, ← sizeOf f.type)).run P C.w = .ok pl.toArray C.w := by
    rw [Array.mapM_eq_mapM_toList, Sem.run_map, run_fieldsP C.w fs.toList pl hpl]
    rfl
  refine done_value hr (Conc.agg g2.1 g2.2) ?_
  have g1' : Instr.fill (fun i => pl.toArray[i]?) v.cells (ps.toList.map fun p => (p.1, a.eval p.2)) = some us.toArray := by simpa using g1
  simp only [execOp, ho, Instr.build, Sem.run_bind, hv, Result.andThen_ok, run_underlying hu, hpr, Array.toList_map, g1', Sem.run_pure]

theorem sound_bldA {ty e : TypeId} {len n : Nat} {ps : Array (Nat × Operand)} {z : LV} {ms : List (Nat × Nat × MO)} (ho : o.op = .build ty ps) (hu : P.underlying ty = some (.array len e)) (hz : zeroT P ty = some z) (hn : sizeT P e = some n) (hm : mapO (placeE n) ps.toList = some ms)
    (hx : ∀ p ∈ ps.toList, ∀ y, cO p.2 = some y → Conc C (ev t y) (a.eval p.2)) (hr : Rel C B h) (he : evOp (.bld z.cells ms) t h lim = some (l, h')) : Done P ((execOp a.eval o).run P C.w) (OpPost B lim C h true l h') := by
  simp only [evOp, Option.map_eq_some_iff, Prod.mk.injEq] at he
  obtain ⟨cs, hf, rfl, rfl⟩ := he
  obtain ⟨v, hv, rfl⟩ := zeroT_run hz C.w
  obtain ⟨m1, m2⟩ := mapO_spec hm
  obtain ⟨us, g1, g2⟩ := fill_conc (C := C) (a := a) (place := fun i => some (i * n, n)) ps.toList ms _ v.cells.toList cs m1 (fun i p m e1 e2 => by
    have := m2 i p m e1 e2
    unfold placeE at this
    split at this
    · rename_i x h2
      simp at this
      subst this
      exact ⟨rfl, hx p (List.mem_of_getElem? e1) x h2⟩
    · simp at this) (liftV_cells v) hf
  refine done_value hr (Conc.agg g2.1 g2.2) ?_
  have g1' : Instr.fill (fun i => some (i * n, n)) v.cells (ps.toList.map fun p => (p.1, a.eval p.2)) = some us.toArray := by simpa using g1
  simp only [execOp, ho, Instr.build, Sem.run_bind, hv, Result.andThen_ok, run_underlying hu, run_sizeT hn, Array.toList_map, g1', Sem.run_pure]

theorem repC_conc {zs : List LV} {us : List Value} (hc : ConcL C zs us) : ∀ n, ConcL C (repC zs n) (List.replicate n us).flatten
  | 0 => ⟨rfl, fun i c u h => by simp [repC] at h⟩
  | n + 1 => by
    have ih := repC_conc hc n
    refine ⟨by simp [repC, hc.1, ih.1, List.replicate_succ], fun i c u h1 h2 => ?_⟩
    simp only [repC, List.replicate_succ, List.flatten_cons] at h1 h2
    rw [List.getElem?_append] at h1 h2
    rw [hc.1] at h1
    split at h1
    · rename_i hi; rw [if_pos hi] at h2; exact hc.2 _ _ _ h1 h2
    · rename_i hi; rw [if_neg hi] at h2; exact ih.2 _ _ _ h1 h2

theorem rep_cells (zs : Array Value) (len : Nat) (h0 : 0 < zs.size) : (Array.range (len * zs.size)).map (fun i => zs[i % zs.size]!) = (List.replicate len zs.toList).flatten.toArray := by
  apply Array.ext_getElem?
  intro i
  simp only [Array.getElem?_map, List.getElem?_toArray]
  by_cases hi : i < len * zs.size
  · have hm : i % zs.size < zs.size := Nat.mod_lt _ h0
    have e1 : (Array.range (len * zs.size))[i]? = some i := by simp [hi]
    rw [e1]
    simp only [Option.map_some, getElem!_pos zs (i % zs.size) hm]
    have key : ∀ (len i : Nat), i < len * zs.size → (List.replicate len zs.toList).flatten[i]? = some (zs[i % zs.size]'(Nat.mod_lt _ h0)) := by
      intro len
      induction len with
      | zero => intro i h; simp at h
      | succ len ih =>
        intro i h
        rw [List.replicate_succ, List.flatten_cons, List.getElem?_append]
        by_cases h1 : i < zs.size
        · rw [if_pos (by simpa using h1)]
          simp [h1, Nat.mod_eq_of_lt h1]
        · have hsub : i - zs.toList.length < len * zs.size := by rw [Nat.succ_mul] at h; simp only [Array.length_toList]; omega
          have hmod : (i - zs.toList.length) % zs.size = i % zs.size := by rw [Array.length_toList, ← Nat.mod_eq_sub_mod (by omega)]
          rw [if_neg (by simpa using h1), ih (i - zs.toList.length) hsub]
          simp only [hmod]
    exact (key len i hi).symm
  · have e1 : (Array.range (len * zs.size))[i]? = none := by simp; omega
    rw [e1]
    simp
    first
      | omega
      | (rw [Nat.mul_comm] at hi; omega)

theorem sound_bsl {ty e : TypeId} {len n : Nat} {ps : Array (Nat × Operand)} {z : LV} {ms : List (Nat × Nat × MO)} (ho : o.op = .buildSlice ty len ps) (hu : P.underlying ty = some (.slice e)) (hz : zeroT P e = some z) (hn : sizeT P e = some n) (hm : mapO (placeE n) ps.toList = some ms)
    (hzn : z.cells.length = n) (h0 : 0 < n) (hmax : len * n ≤ 2 ^ 24) (hx : ∀ p ∈ ps.toList, ∀ y, cO p.2 = some y → Conc C (ev t y) (a.eval p.2)) (hr : Rel C B h) (he : evOp (.bsl z.cells len ms) t h lim = some (l, h')) : Done P ((execOp a.eval o).run P C.w) (OpPost B lim C h true l h') := by
  simp only [evOp, Option.map_eq_some_iff, Prod.mk.injEq] at he
  obtain ⟨cs, hf, rfl, rfl⟩ := he
  obtain ⟨v, hv, rfl⟩ := zeroT_run hz C.w
  obtain ⟨m1, m2⟩ := mapO_spec hm
  have hvz : v.cells.size = n := by have := (liftV_cells (C := C) v).1; simp at this; omega
  obtain ⟨us, g1, g2⟩ := fill_conc (C := C) (a := a) (place := fun i => some (i * n, n)) ps.toList ms _ (List.replicate len v.cells.toList).flatten cs m1 (fun i p m e1 e2 => by
    have := m2 i p m e1 e2
    unfold placeE at this
    split at this
    · rename_i x h2
      simp at this
      subst this
      exact ⟨rfl, hx p (List.mem_of_getElem? e1) x h2⟩
    · simp at this) (repC_conc (liftV_cells v) len) hf
  have hbelow : Below C.w.heap.size C.w (C.w.alloc (.cells us.toArray e (0, 0))) := (Below.refl _ _).alloc (Nat.le_refl _) _
  have hrun : (execOp a.eval o).run P C.w = .ok (.value (.slice (some ⟨C.w.heap.size, 0, none⟩) len len)) (C.w.alloc (.cells us.toArray e (0, 0))) := by
    have hgt : ¬ len * n > 2 ^ 24 := by omega
    have g1' : Instr.fill (fun i => some (i * n, n)) (List.replicate len v.cells.toList).flatten.toArray (ps.toList.map fun p => (p.1, a.eval p.2)) = some us.toArray := g1
    by_cases hl0 : len * n = 0
    · have hl : len = 0 := by rcases Nat.mul_eq_zero.1 hl0 with h | h <;> omega
      subst hl
      have hcells : (Array.range (0 * n)).map (fun x => (#[] : Array Value)[x % (#[] : Array Value).size]!) = (List.replicate 0 v.cells.toList).flatten.toArray := by simp
      simp only [execOp, ho, Instr.buildSlice, Sem.run_bind, run_underlying hu, Result.andThen_ok, run_sizeT hn, Sem.run_ite, if_neg hgt, Sem.run_pure, if_pos hl0, hcells, Array.toList_map, g1', newRow, run_newObj]
      simp
    · have hcells : (Array.range (len * n)).map (fun i => v.cells[i % v.cells.size]!) = (List.replicate len v.cells.toList).flatten.toArray := by
        rw [← hvz]
        exact rep_cells v.cells len (by omega)
      simp only [execOp, ho, Instr.buildSlice, Sem.run_bind, run_underlying hu, Result.andThen_ok, run_sizeT hn, Sem.run_ite, if_neg hgt, Sem.run_pure, if_neg hl0, hv, hcells, Array.toList_map, g1', newRow, run_newObj]
      simp
  rw [hrun]
  have hg := Rel.grow hr hbelow
  have hle := Le.grow hr.size hbelow
  refine ⟨{ C with w := C.w.alloc (.cells us.toArray e (0, 0)) }, rfl, ?_, hg, hle, Fr.grow rfl hbelow, fun _ => ⟨rfl, rfl, rfl, hbelow⟩⟩
  refine Conc.im (fun i => us.getD i undef) (Nat.le_refl _) (fun _ => rfl) (fun i c hc => ⟨?_, ?_, ?_⟩) (fun i c hc => (concL_get g2 i c hc).mono hle)
  · rintro ⟨k, q, hk⟩
    have hk' : C.ρ[k]? = some (some (C.w.heap.size, q)) := hk
    have hlt : k < h.length := by rw [← hr.len]; exact (List.getElem?_eq_some_iff.1 hk').1
    obtain ⟨_, us', tt, e', _⟩ := hr.row k _ q h[k] hk' (by simp [hlt])
    have := (Array.getElem?_eq_some_iff.1 e').1
    omega
  · intro hX
    have := (hr.X _ hX).1
    omega
  · have hlt : i < us.length := by rw [← g2.1]; exact (List.getElem?_eq_some_iff.1 hc).1
    show (C.w.alloc _).cell? ⟨C.w.heap.size, 0 + i, none⟩ = _
    rw [World.cell?_alloc_new]
    simp [hlt]
end
end Go.Proofs.Ytjgnjpbplnmdmaa
