/- A law's row out of the evaluator's answer: whatever comes in, of the shapes of the parameters' types, true comes back, and what came in reads on as it did. -/
import Derived.Test.YtjgnjpbplnmdmaaEng14
import Derived.Carry
import Derived.ChangeSame
import Derived.JoinedOf
import Derived.JoinedAt
import Derived.RowKit3
import Derived.Below
import Derived.WideKeyArgs
namespace Go.Proofs.Ytjgnjpbplnmdmaa
open Go Go.RowKit Go.WideShapes Go.ChangeShapes

def IsArg : Sh → LV → Prop
  | .agg l, x => ∃ cs, x = .agg cs ∧ IsL l cs
  | k, x => Is k [x]

def IsArgs : List Sh → List LV → Prop
  | [], l => l = []
  | k :: ks, l => ∃ x xs, l = x :: xs ∧ IsArg k x ∧ IsArgs ks xs

section
variable {H : Type} {enc : TypeId × Value → H} {P : Program}

theorem post_below {f : Func} {s : ChangeSpec} {apart fresh handsOn again : Bool} {W W' : World} {args : Array Value} {v : Value} {ds gs : List (DataW H)} {before pa pv : List MemPlace}
    (hW : DataW.Whole enc P f.params.toList s.vars apart W args.toList ds gs before)
    (hres : ∀ (b : Nat) (sp : Nat → Bool) (hd : Bool), DataW.TrodAll enc P W' b sp hd f.resultTypes.toList (v.resultList f.resultTypes.size) (s.fn H (ds ++ gs)).results [])
    (hargs : ∀ sp : Nat → Bool, (∀ p ∈ before, sp p.block = true) → DataW.TrodAll enc P W' 0 sp true f.params.toList args.toList (s.fn H (ds ++ gs)).args pa)
    (hvars : ∀ sp : Nat → Bool, (∀ p ∈ before, sp p.block = true) → DataW.TrodVars enc P W' sp s.vars (s.fn H (ds ++ gs)).vars pv)
    (hps : before = pa ++ pv) (hb : Below W.heap.size W W')
    (hok : ∀ (j : Nat) (t : TypeId) (r : Value), f.resultTypes[j]? = some t → (v.resultList f.resultTypes.size)[j]? = some r → Value.okWide P W' .any 0 t r) :
    s.post enc P f apart fresh handsOn again W args v W' := by
  have hlt : ∀ p ∈ before, p.block < W.heap.size := fun p hp => hW.lt p hp
  have hold : ∀ p ∈ before, (fun b => decide (b < W.heap.size)) p.block = true := fun p hp => by simpa using hlt p hp
  refine ⟨ds, gs, before, [], pa, pv, hW, hres _ _ _, hargs _ hold, hvars _ hold, World.keptBut_mono (fun p hp => ⟨hp, ?_⟩) (hb.frame (· ∈ before)), fun _ => ?_⟩
  · rw [hps, List.mem_append] at hp
    exact Or.inr hp
  · obtain ⟨_, _, _, _, _, hz, hn⟩ := hW
    refine ⟨hok, _, _, ([] ++ pa) ++ pv, ⟨[] ++ pa, pv, trodAll_append (hargs _ (fun _ _ => rfl)) (hres _ _ _), hvars _ (fun _ _ => rfl), rfl, ?_, ?_⟩, ?_⟩
    · intro b off hp
      have hin : MemPlace.cell b off ∈ before := by rw [hps]; simpa using hp
      rw [hb.frozen (hlt _ hin)]
      exact hz b off hin
    · intro ha
      have := hn ha
      rw [hps] at this
      simpa using this
    · intro p hp _
      rw [hps]
      simpa using hp

theorem spot_cell {w : World} {r : Reach} {base : Nat} {u : TypeId} {a : Addr} {l c : Nat} (h : Cell.okWide P w r base u (.slice (some a) l c)) : a.spot = none := by
  unfold Cell.okWide at h
  split at h
  all_goals first
    | (rename_i heq; cases heq; done)
    | (unfold Cell.ok at h
       split at h <;> first
        | (rename_i heq; cases heq; done)
        | (rename_i heq; cases heq; exact h.2.2.2.1)
        | exact h.elim)

theorem okWide_noagg {w : World} {r : Reach} {base : Nat} {t : TypeId} {cs : Array Value} (h : Cell.okWide P w r base t (.agg cs)) : False := by
  unfold Cell.okWide at h
  split at h
  all_goals first
    | (rename_i heq; cases heq; done)
    | (unfold Cell.ok at h
       split at h <;> first
        | (rename_i heq; cases heq; done)
        | exact h)

theorem okWide_notuple {w : World} {r : Reach} {base : Nat} {t : TypeId} {cs : Array Value} (h : Cell.okWide P w r base t (.tuple cs)) : False := by
  unfold Cell.okWide at h
  split at h
  all_goals first
    | (rename_i heq; cases heq; done)
    | (unfold Cell.ok at h
       split at h <;> first
        | (rename_i heq; cases heq; done)
        | exact h)

theorem cells_single {w : World} {r : Reach} {base : Nat} {t : TypeId} {v : Value} (h : Cell.okWide P w r base t v) : v.cells.toList = [v] := by
  cases v <;> first | rfl | exact (okWide_noagg h).elim | exact (okWide_notuple h).elim

theorem open_arg {w : World} {base d : Nat} {t : TypeId} {k : Sh} {v : Value} {dd : DataW H} {ps : List MemPlace} (hs : shapeV P d t = some k) (hv : Value.okWide P w .any base t v)
    (ht : DataW.Trod enc P w 0 (fun _ => true) true t v dd ps) : ∃ lv, IsArg k lv ∧ Conc (C0 w) lv v := by
  obtain ⟨fuel, hf⟩ := ht
  have key : ∀ (_ : hasSl k = true → ∀ a l c, Value.slice (some a) l c ∈ v.cells.toList → a.spot = none), ∃ lvs, Is k lvs ∧ ConcL (C0 w) lvs v.cells.toList := fun h => open_cells hs hf h
  have agg : ∀ (l : List Sh) (cs : Array Value), k = .agg l → v = .agg cs → Row.okWide P w .any base t cs → ∃ lv, IsArg k lv ∧ Conc (C0 w) lv v := by
    rintro l cs rfl rfl ⟨ts, _, _, hc⟩
    obtain ⟨lvs, h1, h2⟩ := key (fun _ a l c hm => by
      obtain ⟨i, hi⟩ := List.mem_iff_getElem?.1 hm
      obtain ⟨u, _, hu⟩ := hc i _ (by simpa [Value.cells] using hi)
      exact spot_cell hu)
    exact ⟨.agg lvs, ⟨lvs, rfl, h1⟩, by
      have := Conc.agg h2.1 h2.2
      simpa [Value.cells] using this⟩
  have one : ∀ (_ : Cell.okWide P w .any base t v), (∀ l, k ≠ .agg l) → ∃ lv, IsArg k lv ∧ Conc (C0 w) lv v := by
    intro hc hk
    obtain ⟨lvs, h1, h2⟩ := key (fun _ a l c hm => by
      rw [cells_single hc] at hm
      simp at hm; subst hm
      exact spot_cell hc)
    rw [cells_single hc] at h2
    obtain ⟨h3, h4⟩ := h2
    match lvs, h3 with
    | [x], _ =>
      refine ⟨x, ?_, h4 0 x v rfl rfl⟩
      cases k <;> first | exact h1 | exact absurd rfl (hk _)
  cases d with
  | zero => simp [shapeV] at hs
  | succ d =>
    simp only [shapeV] at hs
    unfold Value.okWide at hv
    split at hs
    · rename_i hu; rw [hu] at hv; simp at hs; subst hs; exact one hv (by simp)
    · rename_i hu; rw [hu] at hv; simp at hs; subst hs; exact one hv (by simp)
    · rename_i hu; rw [hu] at hv; simp at hs; subst hs; exact one hv (by simp)
    · rename_i fs hu
      rw [hu] at hv
      simp only [Option.map_eq_some_iff] at hs
      obtain ⟨l, _, rfl⟩ := hs
      obtain ⟨cs, e, _, hr⟩ := hv
      exact agg l cs rfl e hr
    · rename_i n e hu
      rw [hu] at hv
      split at hs
      · simp only [Option.map_eq_some_iff] at hs
        obtain ⟨l, _, rfl⟩ := hs
        obtain ⟨cs, e, _, hr⟩ := hv
        exact agg _ cs rfl e hr
      · simp at hs
    · rename_i e hu
      rw [hu] at hv
      split at hs <;> try (simp at hs)
      obtain ⟨_, rfl⟩ := hs
      exact one hv (by simp)
    · simp at hs

theorem open_args {w : World} {base d : Nat} : ∀ {ts : List TypeId} {ks : List Sh} {vs : List Value} {ds : List (DataW H)} {ps : List MemPlace}, mapO (shapeV P d) ts = some ks →
    (∀ (j : Nat) t v, ts[j]? = some t → vs[j]? = some v → Value.okWide P w .any base t v) → DataW.TrodAll enc P w 0 (fun _ => true) true ts vs ds ps →
    ∃ lvs, IsArgs ks lvs ∧ ConcL (C0 w) lvs vs
  | [], ks, vs, ds, ps, hk, _, h => by
    simp only [mapO] at hk
    cases hk
    match vs, ds, h with
    | [], [], _ => exact ⟨[], rfl, concL_nil _⟩
  | t :: ts, ks, vs, ds, ps, hk, hv, h => by
    simp only [mapO] at hk
    split at hk
    · rename_i k ks' h1 h2
      cases hk
      match vs, ds, h with
      | v :: vs, d :: ds, ⟨p, q, a, b, _⟩ =>
        obtain ⟨x, hx, cx⟩ := open_arg h1 (hv 0 t v rfl rfl) a
        obtain ⟨xs, hxs, cxs⟩ := open_args h2 (fun j t v e1 e2 => hv (j + 1) t v (by simpa using e1) (by simpa using e2)) b
        exact ⟨x :: xs, ⟨x, xs, rfl, hx, hxs⟩, concL_append (concL_one cx) cxs⟩
    · simp at hk

theorem args_stay {W W' : World} (hl : laidOutB P = true) (hb : Below W.heap.size W W') (sp : Nat → Bool) : ∀ {ts : List TypeId} {vs : List Value} {ds : List (DataW H)} {ps : List MemPlace},
    (ts.all fun t => P.readableRec t && decide (t < P.types.size)) = true → DataW.TrodAll enc P W 0 (fun _ => true) true ts vs ds ps → (∀ x ∈ ps, x.block < W.heap.size) → (∀ x ∈ ps, sp x.block = true) →
    DataW.TrodAll enc P W' 0 sp true ts vs ds ps
  | [], [], [], _, _, h, _, _ => h
  | [], _ :: _, _, _, _, h, _, _ => h.elim
  | [], [], _ :: _, _, _, h, _, _ => h.elim
  | _ :: _, [], _, _, _, h, _, _ => h.elim
  | _ :: _, _ :: _, [], _, _, h, _, _ => h.elim
  | t :: ts, v :: vs, d :: ds, ps, hr, ⟨p, q, a, b, e⟩, hlt, hsp => by
    subst e
    simp only [List.all_cons, Bool.and_eq_true, decide_eq_true_eq] at hr
    exact ⟨p, q, WideElems.Trod_stays hl hr.1.1 hr.1.2 a (fun x hx => hb.same (hlt x (by simp [hx]))) (fun x hx => hsp x (by simp [hx])),
      args_stay hl hb sp hr.2 b (fun x hx => hlt x (by simp [hx])) (fun x hx => hsp x (by simp [hx])), rfl⟩
end

/-- The row's lifted form. -/
theorem row_lifted {C : Checked} {f : FuncId} {fn : Func} {s : ChangeSpec} {conds : List PathCond} {a : Assume} {fresh handsOn again : Bool} {cm : FuncId → Option ME} {H : Type} {enc : TypeId × Value → H} {os : Os} {ks : List Sh} {d : Nat} {tb : TypeId}
    (own : ownKnob C.prog.godebug = none) (started : os.Started) (noInit : C.prog.inits.idxOf? f = none) (hfn : C.prog.funcs[f]? = some fn)
    (witness : ∃ (w : World) (tape : Tape) (i : Input), w.os = os ∧ (w.forCall tape i).Shaped C.prog ∧ i.vars = [] ∧ Input.okWide C.prog (w.forCall tape i) .any w.heap.size f i ∧
      s.pre6 enc C.prog fn conds false (w.forCall tape i).memory i.args ∧ a.holds C.prog (lone (Frame.enter C.prog f i.args .normal) [] (w.forCall tape i)))
    (hcm : ∀ g m, cm g = some m → Good C.prog g m) (hmo : C.prog.follows .mixedOrders = true)
    (hlaid : laidOutB C.prog = true) (hsh : mapO (shapeV C.prog d) fn.params.toList = some ks) (hrd : (fn.params.toList.all fun t => C.prog.readableRec t && decide (t < C.prog.types.size)) = true)
    (hres : fn.resultTypes = #[tb]) (hb : C.prog.underlying tb = some .bool)
    (hvars : s.vars = []) (hspec : ∀ ds : List (DataW H), ds.length = fn.params.toList.length → s.fn H ds = { results := [.lit (.bool true)], args := ds })
    (hlaw : ∀ lvs, IsArgs ks lvs → ∃ n h', evF cm n f lvs [] 0 = some (.v (.bool true), h')) :
    ReturnsInHanded a C os f .any (s.pre6 enc C.prog fn conds false) (s.post enc C.prog fn false fresh handsOn again) := by
  refine returnsInHanded_of_change own started noInit hfn witness ?_
  intro W base args ds gs before hval hW _ _
  have hW' := hW
  obtain ⟨p, q, hA, hV, hpq, _, _⟩ := hW
  rw [hvars] at hV
  have hgs : gs = [] ∧ q = [] := by
    cases gs with
    | nil => exact ⟨rfl, hV⟩
    | cons g gs => exact hV.elim
  obtain ⟨rfl, rfl⟩ := hgs
  obtain ⟨lvs, h1, h2⟩ := open_args (w := W) hsh (fun j t v e1 e2 => hval j t v (by simpa using e1) (by simpa using e2)) hA
  obtain ⟨n, h', he⟩ := hlaw lvs h1
  have hcalls := calls_of_ev hcm hmo he rfl W h2
  refine hcalls.mono ?_
  rintro e W' ⟨u, rfl, hu, hbel⟩
  have hu' : u = .bool true := Conc.v_inv (hu (C0 W))
  subst hu'
  have hlen : ds.length = fn.params.toList.length := by
    have : ∀ {ts : List TypeId} {vs : List Value} {ds : List (DataW H)} {ps : List MemPlace}, DataW.TrodAll enc C.prog W 0 (fun _ => true) true ts vs ds ps → ds.length = ts.length := by
      intro ts
      induction ts with
      | nil => intro vs ds ps h; match vs, ds, h with | [], [], _ => rfl
      | cons t ts ih => intro vs ds ps h; match vs, ds, h with | v :: vs, d :: ds, ⟨p, q, a, b, _⟩ => simp [ih b]
    exact this hA
  have hsp : s.fn H (ds ++ []) = { results := [.lit (.bool true)], args := ds } := by rw [List.append_nil]; exact hspec ds hlen
  refine ⟨_, rfl, post_below (pa := p) (pv := []) hW' ?_ ?_ ?_ (by rw [hpq]) hbel ?_⟩
  · intro b sp hd
    rw [hres, hsp]
    exact ⟨[], [], ⟨1, by simp [Value.cells, DataW.trod, hb]⟩, rfl, rfl⟩
  · intro sp hsp'
    rw [hsp]
    exact args_stay hlaid hbel sp hrd hA (fun x hx => hW'.lt x (by rw [hpq]; simp [hx])) (fun x hx => hsp' x (by rw [hpq]; simp [hx]))
  · intro sp _
    rw [hsp, hvars]
    rfl
  · exact ok_one hres rfl (okWide_bool_mk hb true)
end Go.Proofs.Ytjgnjpbplnmdmaa
