/- Code within a round of a range over a function: the evaluator is right there too. -/
import Derived.Test.YteeghebaankmlaaEng12
import Derived.TacticsIn
import Derived.LoopNIn
import Derived.ControlIn
set_option linter.unusedVariables false
namespace Go.Proofs.Yteeghebaankmlaa
open Go Go.RowKit
/-- The fence within a round. -/
abbrev FR (l : Nat) : Fence := Fence.wide.inRound l
theorem wpIn_mono' {F : Fence} {n : Nat} {P : Program} {c : Code} {Q Q' : Exit → Act → World → Prop} {a : Act} {w : World} (h : c.wpIn F n P Q a w) (hq : ∀ e a w, Q e a w → Q' e a w) : c.wpIn F n P Q' a w := Code.wpIn_mono hq h
/-- No region whose order is drawn. -/
def plainC : Code → Bool
  | .region _ _ draw => !draw
  | .seq x y => plainC x && plainC y
  | .cond _ x y => plainC x && plainC y
  | .block _ x => plainC x
  | .loop x => plainC x
  | _ => true
section
variable {P : Program} {cal : Callee} {o : Oper} {a : Act} {t t' : List LV} {h h' : List Row} {lim B : Nat} {C : Cx} {l m : Nat} {Q : Exit → Act → World → Prop}
theorem done_wpIn {K : Value → World → Prop} {next : Act → World → Prop} {w : World} (hnd : ∀ c, o.op ≠ .defer c) (hd : Done P ((execOp a.eval o).run P w) K) (hk : ∀ u w', K u w' → next (a.put o.dst u) w') : o.wpIn (FR l) m P a w next Q := by
  refine ⟨fun _ _ => trivial, ?_⟩
  rw [show (FR l).round = some l from rfl, Oper.semAt_some l _ _ hnd]
  generalize (execOp a.eval o).run P w = r at *
  cases r with
  | ok n w' =>
    cases n <;> simp only [Done] at hd <;> simp only [Oper.uponIn]
    case value u => exact hk _ _ hd
    case skip => exact hk _ _ hd
    case enter f args =>
      refine ⟨fun hh => by simp [FR, Fence.wide] at hh, ?_⟩
      refine CallsIn.mono (R := fun e w'' => ∃ u, e = .returned u ∧ K u w'') (show CallsIn Fence.wide _ P f args w' _ from callsIn_wide.2 hd) ?_
      rintro e w'' ⟨u, he, hu⟩; subst he; exact hk _ _ hu
  | halt x w' => simp only [Done] at hd
theorem done_nd {K : Value → World → Prop} {ρ : Operand → Value} {w : World} (h : Done P ((execOp ρ o).run P w) K) : ∀ c, o.op ≠ .defer c := by
  intro c hc
  unfold execOp at h
  rw [hc] at h
  simp only [Sem.run_bind] at h
  generalize (resolve ρ c o.type).run P w = r at h
  cases r <;> simp [Result.andThen, Done] at h
theorem ops_listR (hcal : CalOK P cal) {ops : Array Oper} : ∀ (L : List Oper) (ms : List MI) (t : List LV) (h : List Row) (a : Act) (C : Cx) (s : St), mapO (cI P ops) L = some ms → evOps cal false lim ms (t, h) = some s →
    TmpR C t a → Rel C B h → a.defers = [] → (∀ a' w', StPost B lim C s a' w' → Q .normal a' w') → wpListIn (FR l) m P ops Q L a C.w
  | [], ms, t, h, a, C, s, hm, he, ht, hr, hd, hQ => by
    simp [mapO] at hm
    subst hm
    simp [evOps] at he
    subst he
    exact hQ _ _ ⟨C, rfl, ht, hr, Le.refl _ _, Fr.refl _ _, hd⟩
  | o :: L, ms, t, h, a, C, s, hm, he, ht, hr, hd, hQ => by
    unfold mapO at hm
    split at hm
    · rename_i m1 ms' h1 h2
      simp at hm
      subst hm
      simp only [evOps] at he
      split at he
      · rename_i s1 hs1
        obtain ⟨t1, h1'⟩ := s1
        obtain ⟨x, hx1, hx2⟩ := mi_any (o := o) (a := a) (C := C) (B := B) (quiet := false) hcal h1 (fun hh => by simp at hh) (fun d _ => ht.2 d) hr hs1
        subst hx1
        unfold wpListIn
        rcases hx2 with ⟨hw, hdn⟩ | ⟨hw, rfl, rfl⟩
        · rw [if_pos hw]
          refine done_wpIn (done_nd hdn) hdn fun u w' hp => ?_
          obtain ⟨C', rfl, c1, c2, c3, c4, _⟩ := hp
          exact ops_listR hcal L ms' _ _ _ C' s h2 he ((ht.mono c3).put o.dst c1) c2 (by rw [put_defers]; exact hd) fun a' w' hst => hQ a' w' (hst.trans c3 c4)
        · rw [if_neg (by simp [hw])]
          refine ⟨fun _ _ => trivial, ?_⟩
          exact ops_listR hcal L ms' _ _ _ C s h2 he (ht.put o.dst (.v _)) hr (by rw [put_defers]; exact hd) hQ
      · simp at he
    · simp at hm
theorem region_soundR (hcal : CalOK P cal) {id : Nat} {ops : Array Oper} {mc : MC} {k : Nat} {s s' : St} {e : Ex} (hc : cRg P ops false = some mc) (he : evCode cal k lim mc s = some (e, s'))
    (ht : TmpR C s.1 a) (hr : Rel C B s.2) (hd : a.defers = []) (hQ : ∀ a' w', StPost B lim C s' a' w' → Q .normal a' w') : (Code.region id ops false).wpIn (FR l) m P Q a C.w ∧ e = .nrm := by
  obtain ⟨t, h⟩ := s
  simp only [cRg, Option.bind_eq_bind, Option.bind_eq_some_iff] at hc
  obtain ⟨ms, hms, hc⟩ := hc
  simp only [Bool.false_eq_true, if_false, Option.pure_def, Option.some.injEq] at hc
  subst hc
  simp only [evCode, evOps] at he
  split at he
  · rename_i s2 hs2
    simp only [Option.some.injEq, Prod.mk.injEq] at he
    obtain ⟨rfl, rfl⟩ := he
    exact ⟨wpIn_region_list (ops_listR hcal _ ms t h a C s2 hms hs2 ht hr hd hQ), rfl⟩
  · simp at he
theorem loop_soundR {c : Code} {cl : St → St} {f : St → Option (Ex × St)} {e : Ex} {s' : St}
    (hcl : ∀ (C1 : Cx) (s : St) (a : Act), TmpR C1 s.1 a → Rel C1 B s.2 → Le B C C1 → Fr lim C C1 → ∃ C2 : Cx, C2.w = C1.w ∧ TmpR C2 (cl s).1 a ∧ Rel C2 B (cl s).2 ∧ Le B C C2 ∧ Fr lim C C2)
    (ih : ∀ (s1 s2 : St) (e1 : Ex) (C1 : Cx) (a1 : Act), f s1 = some (e1, s2) → TmpR C1 s1.1 a1 → Rel C1 B s1.2 → a1.defers = [] → c.wpIn (FR l) m P (CodePost B lim C1 e1 s2) a1 C1.w) :
    ∀ (j : Nat) (s1 : St) (C1 : Cx) (a1 : Act), iter f cl j s1 = some (e, s') → TmpR C1 s1.1 a1 → Rel C1 B s1.2 → a1.defers = [] → Le B C C1 → Fr lim C C1 →
      Code.roundsIn (FR l) m P c (CodePost B lim C e s') j a1 C1.w := by
  intro j
  induction j with
  | zero => intro s1 C1 a1 he; simp [iter] at he
  | succ j ihj =>
    intro s1 C1 a1 he ht hr hd hle hfr
    obtain ⟨C2, hw, ht2, hr2, hle2, hfr2⟩ := hcl C1 s1 a1 ht hr hle hfr
    rw [roundsIn_succ, ← hw]
    simp only [iter] at he
    split at he
    · rename_i s2 hf
      refine Code.wpIn_mono ?_ (ih _ s2 .nrm C2 a1 hf ht2 hr2 hd)
      rintro e' a' w' ⟨rfl, C3, rfl, x1, x2, x3, x4, x5⟩
      exact ihj s2 C3 a' he x1 x2 x5 (hle2.trans x3) (hfr2.trans x4)
    · rename_i s2 hf
      simp only [Option.some.injEq, Prod.mk.injEq] at he
      obtain ⟨rfl, rfl⟩ := he
      refine Code.wpIn_mono ?_ (ih _ s2 .ret C2 a1 hf ht2 hr2 hd)
      rintro e' a' w' ⟨rfl, hst⟩
      exact ⟨rfl, hst.trans hle2 hfr2⟩
    · rename_i i s2 hf
      simp only [Option.some.injEq, Prod.mk.injEq] at he
      obtain ⟨rfl, rfl⟩ := he
      refine Code.wpIn_mono ?_ (ih _ s2 (.exit i) C2 a1 hf ht2 hr2 hd)
      rintro e' a' w' ⟨rfl, hst⟩
      exact ⟨rfl, hst.trans hle2 hfr2⟩
    · simp at he

theorem code_soundR (hcal : CalOK P cal) (hmo : P.follows .mixedOrders = true) {md : Bool × List FuncId} {names : Array String} {k : Nat} : ∀ (c : Code), plainC c = true → ∀ (s s' : St) (e : Ex) (C : Cx) (a : Act), evCode cal k lim (cC P md names c) s = some (e, s') → TmpR C s.1 a → Rel C B s.2 → a.defers = [] →
    c.wpIn (FR l) m P (CodePost B lim C e s') a C.w := by
  intro c
  induction c with
  | skip =>
    intro hp s s' e C a he ht hr hd
    simp [cC, evCode] at he
    obtain ⟨rfl, rfl⟩ := he
    exact wpIn_skip ⟨rfl, C, rfl, ht, hr, Le.refl _ _, Fr.refl _ _, hd⟩
  | label l =>
    intro hp s s' e C a he ht hr hd
    simp [cC, evCode] at he
    obtain ⟨rfl, rfl⟩ := he
    exact wpIn_label ⟨rfl, C, rfl, ht, hr, Le.refl _ _, Fr.refl _ _, hd⟩
  | ret =>
    intro hp s s' e C a he ht hr hd
    simp [cC, evCode] at he
    obtain ⟨rfl, rfl⟩ := he
    exact wpIn_ret ⟨rfl, C, rfl, ht, hr, Le.refl _ _, Fr.refl _ _, hd⟩
  | exit i =>
    intro hp s s' e C a he ht hr hd
    simp [cC, evCode] at he
    obtain ⟨rfl, rfl⟩ := he
    exact wpIn_exit ⟨rfl, C, rfl, ht, hr, Le.refl _ _, Fr.refl _ _, hd⟩
  | region id ops draw =>
    intro hp s s' e C a he ht hr hd
    have hdr : draw = false := by cases draw with | false => rfl | true => cases hp
    subst hdr
    simp only [cC] at he
    cases hc : cRegion P md.2 ops false with
    | none => rw [hc] at he; simp [evCode] at he
    | some mc =>
      rw [hc] at he
      simp only [Option.getD_some] at he
      have hc' : cRg P ops false = some mc := by simpa [cRegion] using hc
      have := region_soundR (l := l) (m := m) (id := id) (Q := CodePost B lim C e s') hcal hc' he ht hr hd
      by_cases hen : e = .nrm
      · subst hen
        exact (this fun a' w' hst => ⟨rfl, hst⟩).1
      · exact (hen (region_soundR (l := l) (m := m) (id := id) (Q := fun _ _ _ => True) hcal hc' he ht hr hd fun _ _ _ => trivial).2).elim
  | seq x y ihx ihy =>
    intro hp s s' e C a he ht hr hd
    simp only [cC, evCode] at he
    split at he
    · rename_i s1 hs1
      refine wpIn_seq (Code.wpIn_mono ?_ (ihx (by simp only [plainC, Bool.and_eq_true] at hp; exact hp.1) s s1 .nrm C a hs1 ht hr hd))
      rintro e' a' w' ⟨rfl, C1, rfl, x1, x2, x3, x4, x5⟩
      refine Code.wpIn_mono ?_ (ihy (by simp only [plainC, Bool.and_eq_true] at hp; exact hp.2) s1 s' e C1 a' he x1 x2 x5)
      rintro e' a' w' ⟨rfl, hst⟩
      exact ⟨rfl, hst.trans x3 x4⟩
    · rename_i s1 hs1
      simp only [Option.some.injEq, Prod.mk.injEq] at he
      obtain ⟨rfl, rfl⟩ := he
      refine wpIn_seq (Code.wpIn_mono ?_ (ihx (by simp only [plainC, Bool.and_eq_true] at hp; exact hp.1) s s1 .ret C a hs1 ht hr hd))
      rintro e' a' w' ⟨rfl, hst⟩
      exact ⟨rfl, hst⟩
    · rename_i i s1 hs1
      simp only [Option.some.injEq, Prod.mk.injEq] at he
      obtain ⟨rfl, rfl⟩ := he
      refine wpIn_seq (Code.wpIn_mono ?_ (ihx (by simp only [plainC, Bool.and_eq_true] at hp; exact hp.1) s s1 (.exit i) C a hs1 ht hr hd))
      rintro e' a' w' ⟨rfl, hst⟩
      exact ⟨rfl, hst⟩
    · simp at he
  | cond q x y ihx ihy =>
    intro hp s s' e C a he ht hr hd
    simp only [cC] at he
    split at he
    · rename_i mq hq
      simp only [evCode] at he
      split at he
      · rename_i b hb
        have hcq := cO_ev q mq hq (fun i _ => ht.2 i)
        rw [hb] at hcq
        have hv := hcq.v_inv
        cases b
        · simp only [Bool.false_eq_true, if_false] at he
          exact wpIn_cond hv (by simpa using ihy (by simp only [plainC, Bool.and_eq_true] at hp; exact hp.2) s s' e C a he ht hr hd)
        · simp only [if_true] at he
          exact wpIn_cond hv (by simpa using ihx (by simp only [plainC, Bool.and_eq_true] at hp; exact hp.1) s s' e C a he ht hr hd)
      · simp at he
    · simp [evCode] at he
  | block id x ih =>
    intro hp s s' e C a he ht hr hd
    simp only [cC, evCode] at he
    split at he
    · rename_i s1 hs1
      simp only [Option.some.injEq, Prod.mk.injEq] at he
      obtain ⟨rfl, rfl⟩ := he
      refine wpIn_block (Code.wpIn_mono ?_ (ih hp s s1 .nrm C a hs1 ht hr hd))
      rintro e' a' w' ⟨rfl, hst⟩
      exact ⟨rfl, hst⟩
    · rename_i s1 hs1
      simp only [Option.some.injEq, Prod.mk.injEq] at he
      obtain ⟨rfl, rfl⟩ := he
      refine wpIn_block (Code.wpIn_mono ?_ (ih hp s s1 .ret C a hs1 ht hr hd))
      rintro e' a' w' ⟨rfl, hst⟩
      exact ⟨rfl, hst⟩
    · rename_i i s1 hs1
      refine wpIn_block (Code.wpIn_mono ?_ (ih hp s s1 (.exit i) C a hs1 ht hr hd))
      rintro e' a' w' ⟨rfl, hst⟩
      split at he
      · rename_i hi
        simp only [Option.some.injEq, Prod.mk.injEq] at he
        obtain ⟨rfl, rfl⟩ := he
        simp only [exOf, Exit.inBlock, hi, if_true]
        exact ⟨rfl, hst⟩
      · rename_i hi
        simp only [Option.some.injEq, Prod.mk.injEq] at he
        obtain ⟨rfl, rfl⟩ := he
        simp only [exOf, Exit.inBlock, hi, if_false]
        exact ⟨rfl, hst⟩
    · simp at he
  | loop x ih =>
    intro hp s s' e C a he ht hr hd
    simp only [cC] at he
    have hvl : C.vs.length = s.2.length := by rw [hr.vs]; simp
    split at he
    · simp only [evCode] at he
      exact wpIn_loop_rounds k (loop_soundR (C := C) (cl := cleanN _) (fun C1 s1 a1 h1 h2 h3 h4 => cleanN_rel (C := C) _ h1 h2 h3 h4) (fun s1 s2 e1 C1 a1 h1 h2 h3 h4 => ih hp s1 s2 e1 C1 a1 h1 h2 h3 h4) k s C a he ht hr hd (Le.refl _ _) (Fr.refl _ _))
    · split at he
      · simp only [evCode] at he
        exact wpIn_loop_rounds k (loop_soundR (C := C) (cl := clean _ s.2.length lim) (fun C1 s1 a1 h1 h2 h3 h4 => clean_rel (C := C) _ _ h1 h2 h3 h4 hr.len hvl) (fun s1 s2 e1 C1 a1 h1 h2 h3 h4 => ih hp s1 s2 e1 C1 a1 h1 h2 h3 h4) k s C a he ht hr hd (Le.refl _ _) (Fr.refl _ _))
      · simp only [evCode] at he
        exact wpIn_loop_rounds k (loop_soundR (C := C) (cl := cleanK _ _ s.2.length lim) (fun C1 s1 a1 h1 h2 h3 h4 => cleanK_rel (C := C) _ _ _ h1 h2 h3 h4 hr.len hvl) (fun s1 s2 e1 C1 a1 h1 h2 h3 h4 => ih hp s1 s2 e1 C1 a1 h1 h2 h3 h4) k s C a he ht hr hd (Le.refl _ _) (Fr.refl _ _))
  | rangeFunc f ps x y _ _ => intro hp s s' e C a he; simp [cC, evCode] at he
  | scope x _ => intro hp s s' e C a he; simp [cC, evCode] at he
  | goto l => intro hp s s' e C a he; simp [cC, evCode] at he
  | refuse w => intro hp s s' e C a he; simp [cC, evCode] at he
end
end Go.Proofs.Yteeghebaankmlaa
