/- Parts of slices, slices made, slices as arrays. -/
import Derived.Test.YtjgnjpbplnmdmaaEngA
import Derived.Laws.Strings2
import Derived.Laws.BytesString
import Derived.Laws.Cells
namespace Go.Proofs.Ytjgnjpbplnmdmaa
open Go Go.RowKit
section
variable {P : Program} {o : Oper} {a : Act} {t : List LV} {h h' : List Row} {lim B : Nat} {C : Cx} {l : LV}

theorem sound_sap {arr e : TypeId} {x : Operand} {mx : MO} {n : Nat} (ho : o.op = .sliceToArrayPointer arr x) (hu : P.underlying arr = some (.array n e)) (hx : Conc C (ev t mx) (a.eval x)) (hr : Rel C B h)
    (he : evOp (.sap mx n) t h lim = some (l, h')) : Done P ((execOp a.eval o).run P C.w) (OpPost B lim C h true l h') := by
  have hrun : ∀ (ad : Option Addr) (len c : Nat), a.eval x = .slice ad len c → n ≤ len → (execOp a.eval o).run P C.w = .ok (.value (.pointer ad)) C.w := by
    intro ad len c had hn
    have : ¬ len < n := by omega
    simp [execOp, ho, Instr.arrayAt, run_underlying hu, had, this]
  simp only [evOp] at he
  generalize hl : ev t mx = lv at hx he
  cases lv with
  | sl k ver off len esz cap =>
    simp only at he
    split at he
    · rename_i hn
      simp only [Option.some.injEq, Prod.mk.injEq] at he
      obtain ⟨rfl, rfl⟩ := he
      cases hxx : a.eval x with
      | slice ao ln c =>
        rw [hxx] at hx
        cases hx with
        | sl e1 e2 e3 e4 => exact done_value hr (.p e1 e2) (hrun _ _ _ hxx hn)
        | slOld e1 e2 => exact done_value hr (.pOld e1 e2) (hrun _ _ _ hxx hn)
      | _ => rw [hxx] at hx; cases hx
    · simp at he
  | im cs len full =>
    simp only at he
    split at he
    · rename_i hn
      simp only [Option.some.injEq, Prod.mk.injEq] at he
      obtain ⟨rfl, rfl⟩ := he
      obtain ⟨b, q, c, us, had, _, _, h1, h2⟩ := hx.im_inv
      exact done_value hr (.pi us h1 h2) (hrun _ _ _ had hn)
    · simp at he
  | _ => simp at he

theorem run_bound {v : Value} {k : IntKind} {j : Int} {y : Nat} {code : BoundsCode} (hv : v = .int k j) (h0 : 0 ≤ j) (h1 : j ≤ (y : Int)) (w : World) : (Instr.sliceBound v y code).run P w = .ok j.toNat w := by
  subst hv
  simp [Instr.sliceBound, asIntOf, h0, h1]

/-- What a part of a slice is. -/
theorem run_part_slice {ty e : TypeId} {x : Operand} {lo hi mx : Option Operand} {ad : Option Addr} {len c n mm : Nat} {i j : Int} (ho : o.op = .slice ty x lo hi mx) (hu : P.underlying ty = some (.slice e)) (hn : sizeT P e = some n) (hxx : a.eval x = .slice ad len c)
    (h1 : (lo = none ∧ i = 0) ∨ ∃ y k, lo = some y ∧ a.eval y = .int k i) (h2 : (hi = none ∧ j = (len : Int)) ∨ ∃ y k, hi = some y ∧ a.eval y = .int k j) (hm : (mx = none ∧ mm = c) ∨ ∃ y k z, mx = some y ∧ hi ≠ none ∧ a.eval y = .int k z ∧ 0 ≤ z ∧ z ≤ (c : Int) ∧ mm = z.toNat)
    (h3 : 0 ≤ i) (h4 : i ≤ j) (h5 : j ≤ (mm : Int)) (w : World) :
    (execOp a.eval o).run P w = .ok (.value (.slice (if mm = i.toNat then ad else ad.map (·.add (i.toNat * n))) (j.toNat - i.toNat) (mm - i.toNat))) w := by
  have hb : (Instr.sliceBounds true len c (lo.map a.eval) (hi.map a.eval) (mx.map a.eval)).run P w = .ok (i.toNat, j.toNat, mm) w := by
    have hhi : ∀ (z : Nat), z = j.toNat → i ≤ (z : Int) := fun z hz => by omega
    have hj0 : 0 ≤ j := by omega
    rcases hm with ⟨rfl, rfl⟩ | ⟨ym, km, z, rfl, hne, em, z0, zc, rfl⟩
    · rcases h2 with ⟨rfl, rfl⟩ | ⟨y2, k2, rfl, e2⟩
      · rcases h1 with ⟨rfl, rfl⟩ | ⟨y1, k1, rfl, e1⟩
        · simp [Instr.sliceBounds]
        · simp [Instr.sliceBounds, run_bound e1 h3 h4]
      · rcases h1 with ⟨rfl, rfl⟩ | ⟨y1, k1, rfl, e1⟩
        · simp [Instr.sliceBounds, run_bound e2 hj0 h5]
        · simp [Instr.sliceBounds, run_bound e2 hj0 h5, run_bound e1 h3 (hhi j.toNat rfl)]
    · rcases h2 with ⟨rfl, rfl⟩ | ⟨y2, k2, rfl, e2⟩
      · exact absurd rfl hne
      · rcases h1 with ⟨rfl, rfl⟩ | ⟨y1, k1, rfl, e1⟩
        · simp [Instr.sliceBounds, run_bound em z0 zc, run_bound e2 hj0 h5]
        · simp [Instr.sliceBounds, run_bound em z0 zc, run_bound e2 hj0 h5, run_bound e1 h3 (hhi j.toNat rfl)]
  have hs : (Instr.sliceAt ty (.slice ad len c) (lo.map a.eval) (hi.map a.eval) (mx.map a.eval)).run P w = .ok (.slice (if mm = i.toNat then ad else ad.map (·.add (i.toNat * n))) (j.toNat - i.toNat) (mm - i.toNat)) w := by
    simp only [Instr.sliceAt, Instr.slice, Sem.run_bind, run_underlying hu, Result.andThen_ok, hb, run_sizeT hn, Sem.run_pure]
  simp [execOp, ho, hxx, hs]

theorem bndE_spec {m : Option MO} {d : Nat} {z : Int} {y : Option Operand} (hy : cOo y = some m) (hc : ∀ x, y = some x → ∀ mx, cO x = some mx → Conc C (ev t mx) (a.eval x)) (h : bndE t m d = some z) : (y = none ∧ z = d) ∨ ∃ x k, y = some x ∧ a.eval x = .int k z := by
  cases y with
  | none =>
    simp [cOo] at hy
    subst hy
    simp [bndE] at h
    exact .inl ⟨rfl, h.symm⟩
  | some x =>
    simp only [cOo, Option.map_eq_some_iff] at hy
    obtain ⟨mx, h1, rfl⟩ := hy
    have := hc x rfl mx h1
    simp only [bndE] at h
    split at h
    · rename_i k j hj
      simp at h
      subst h
      rw [hj] at this
      exact .inr ⟨x, k, rfl, this.v_inv⟩
    · simp at h

theorem maxE_spec {m : Option MO} {z : Option Int} {y : Option Operand} (hy : cOo y = some m) (hc : ∀ x, y = some x → ∀ mx, cO x = some mx → Conc C (ev t mx) (a.eval x)) (h : maxE t m = some z) : (y = none ∧ z = none) ∨ ∃ x k q, y = some x ∧ z = some q ∧ a.eval x = .int k q := by
  cases y with
  | none =>
    simp [cOo] at hy
    subst hy
    simp [maxE] at h
    exact .inl ⟨rfl, h.symm⟩
  | some x =>
    simp only [cOo, Option.map_eq_some_iff] at hy
    obtain ⟨mx, h1, rfl⟩ := hy
    have := hc x rfl mx h1
    simp only [maxE] at h
    split at h
    · rename_i k j hj
      simp at h
      subst h
      rw [hj] at this
      exact .inr ⟨x, k, j, rfl, rfl, this.v_inv⟩
    · simp at h

theorem im_empty {b o c : Nat} {full : Bool} (hf : full = true → c = 0) : Conc C (.im [] 0 full) (.slice (some ⟨b, o, none⟩) 0 c) :=
  .im (fun _ => undef) (Nat.zero_le _) hf (fun i e h => by simp at h) (fun i e h => by simp at h)

theorem room_mono {w : World} {b n m : Nat} (h : room w b n) (hm : m ≤ n) : room w b m := by
  obtain ⟨us, t, e, hs⟩ := h
  exact ⟨us, t, e, by omega⟩

def mxOf (z : Option Int) (c : Nat) : Nat := match z with | none => c | some q => q.toNat

theorem sound_slc {ty e : TypeId} {x : Operand} {lo hi mxo : Option Operand} {mx : MO} {ml mh mm : Option MO} {n : Nat} (ho : o.op = .slice ty x lo hi mxo) (hbar : (hi.isNone && mxo.isSome) = false) (hu : P.underlying ty = some (.slice e)) (hn : sizeT P e = some n) (hx : Conc C (ev t mx) (a.eval x))
    (hl : cOo lo = some ml) (hh : cOo hi = some mh) (hmx : cOo mxo = some mm) (hlc : ∀ x, lo = some x → ∀ mx, cO x = some mx → Conc C (ev t mx) (a.eval x)) (hhc : ∀ x, hi = some x → ∀ mx, cO x = some mx → Conc C (ev t mx) (a.eval x)) (hmc : ∀ x, mxo = some x → ∀ mx, cO x = some mx → Conc C (ev t mx) (a.eval x)) (hr : Rel C B h)
    (he : evOp (.slc mx ml mh mm n) t h lim = some (l, h')) : Done P ((execOp a.eval o).run P C.w) (OpPost B lim C h true l h') := by
  simp only [evOp] at he
  split at he
  · rename_i i j z hi' hj' hz'
    simp only [Option.map_eq_some_iff, Prod.mk.injEq] at he
    obtain ⟨r, hp, rfl, rfl⟩ := he
    have h1 := bndE_spec hl hlc hi'
    have h2 := bndE_spec hh hhc hj'
    have h3 := maxE_spec hmx hmc hz'
    have hmax : ∀ (c : Nat), (∀ q, z = some q → 0 ≤ q ∧ q ≤ (c : Int)) → (mxo = none ∧ mxOf z c = c) ∨ ∃ y k q, mxo = some y ∧ hi ≠ none ∧ a.eval y = .int k q ∧ 0 ≤ q ∧ q ≤ (c : Int) ∧ mxOf z c = q.toNat := by
      intro c hc
      rcases h3 with ⟨h4, h5⟩ | ⟨y, k, q, h4, h5, h6⟩
      · subst h5; exact .inl ⟨h4, rfl⟩
      · subst h5
        refine .inr ⟨y, k, q, h4, fun hn => ?_, h6, (hc q rfl).1, (hc q rfl).2, rfl⟩
        rw [hn, h4] at hbar
        simp at hbar
    generalize hlv : ev t mx = lv at hx hp h2
    cases lv with
    | sl k ver off len esz cap =>
      simp only [partE] at hp
      split at hp
      · rename_i cs hrow
        obtain ⟨b, q, us, tt, c, hxx, e3, e4, e1, e2, _⟩ := Conc.sl_inv hr hx hrow
        cases z with
        | none =>
          dsimp only [mxOf] at hp hmax
          split at hp
          · rename_i hc
            obtain ⟨rfl, p1, p2, p3⟩ := hc
            obtain rfl := Option.some.inj hp
            have hrun := run_part_slice (w := C.w) (lo := lo) (hi := hi) (mx := mxo) ho hu hn hxx (by simpa using h1) (by simpa [lenN] using h2) (hmax c (fun q hq => by cases hq)) p1 p2 (by omega)
            split
            · rename_i hij
              have hji : j.toNat = i.toNat := by omega
              by_cases hci : c = i.toNat
              · rw [if_pos hci, hji, Nat.sub_self, hci, Nat.sub_self] at hrun
                exact done_value hr (im_empty fun h => by cases h) hrun
              · rw [if_neg hci, hji, Nat.sub_self] at hrun
                simp only [Option.map_some, addr_add] at hrun
                exact done_value hr (im_empty fun h => by cases h) hrun
            · rename_i hij
              have hci : ¬ c = i.toNat := by omega
              rw [if_neg hci] at hrun
              simp only [Option.map_some, addr_add] at hrun
              refine done_value hr ?_ hrun
              have hc2 : Conc C (.sl k ver (off + i.toNat * esz) (j.toNat - i.toNat) esz (cap - i.toNat)) (.slice (some ⟨b, q + (off + i.toNat * esz), none⟩) (j.toNat - i.toNat) (c - i.toNat)) := by
                refine .sl e1 e2 ⟨by omega, by omega⟩ ?_
                have hm : i.toNat * esz + (c - i.toNat) * esz = c * esz := by rw [← Nat.add_mul]; congr 1; omega
                have : q + (off + i.toNat * esz) + (c - i.toNat) * esz = q + off + c * esz := by omega
                rw [this]; exact e4
              rw [← Nat.add_assoc] at hc2
              exact hc2
          · simp at hp
        | some m =>
          dsimp only [mxOf] at hp hmax
          split at hp
          · rename_i hc
            obtain ⟨rfl, p1, p2, p3, p4⟩ := hc
            obtain rfl := Option.some.inj hp
            have hrun := run_part_slice (w := C.w) (lo := lo) (hi := hi) (mx := mxo) (mm := m.toNat) ho hu hn hxx (by simpa using h1) (by simpa [lenN] using h2) (hmax c (fun q hq => by obtain rfl := Option.some.inj hq; omega)) p1 p2 (by omega)
            split
            · rename_i hij
              have hji : j.toNat = i.toNat := by omega
              rw [if_pos (by omega), hji, Nat.sub_self, show m.toNat - i.toNat = 0 by omega] at hrun
              exact done_value hr (im_empty fun _ => rfl) hrun
            · rename_i hij
              have hci : ¬ m.toNat = i.toNat := by omega
              rw [if_neg hci] at hrun
              simp only [Option.map_some, addr_add] at hrun
              refine done_value hr ?_ hrun
              have hc2 : Conc C (.sl k ver (off + i.toNat * esz) (j.toNat - i.toNat) esz (m.toNat - i.toNat)) (.slice (some ⟨b, q + (off + i.toNat * esz), none⟩) (j.toNat - i.toNat) (m.toNat - i.toNat)) := by
                refine .sl e1 e2 ⟨by omega, Nat.le_refl _⟩ (room_mono e4 ?_)
                have hm : i.toNat * esz + (m.toNat - i.toNat) * esz = m.toNat * esz := by rw [← Nat.add_mul]; congr 1; omega
                have hm2 : m.toNat * esz ≤ c * esz := Nat.mul_le_mul_right _ (by omega)
                omega
              rw [← Nat.add_assoc] at hc2
              exact hc2
          · simp at hp
      · simp at hp
    | im cs len full =>
      simp only [partE] at hp
      obtain ⟨b, q, c, us, hxx, e3, e4, c1, c2⟩ := hx.im_inv
      have get : ∀ (r : Nat) (g : LV), ((cs.drop (i.toNat * n)).take ((j.toNat - i.toNat) * n))[r]? = some g → cs[i.toNat * n + r]? = some g := by
        intro r g hg
        rw [List.getElem?_take] at hg
        split at hg
        · rw [List.getElem?_drop] at hg; exact hg
        · cases hg
      cases z with
      | none =>
        dsimp only [mxOf] at hp hmax
        split at hp
        · rename_i hc
          obtain ⟨p1, p2, p3⟩ := hc
          obtain rfl := Option.some.inj hp
          have hrun := run_part_slice (w := C.w) (lo := lo) (hi := hi) (mx := mxo) ho hu hn hxx (by simpa using h1) (by simpa [lenN] using h2) (hmax c (fun q hq => by cases hq)) p1 p2 (by omega)
          split
          · rename_i hij
            subst hij
            by_cases hci : c = i.toNat
            · rw [if_pos hci, Nat.sub_self, hci, Nat.sub_self] at hrun
              exact done_value hr (im_empty fun h => by cases h) hrun
            · rw [if_neg hci, Nat.sub_self] at hrun
              simp only [Option.map_some, addr_add] at hrun
              exact done_value hr (im_empty fun h => by cases h) hrun
          · rename_i hij
            have hci : ¬ c = i.toNat := by omega
            rw [if_neg hci] at hrun
            simp only [Option.map_some, addr_add] at hrun
            refine done_value hr ?_ hrun
            refine .im (fun r => us (i.toNat * n + r)) (by omega) (fun hf => ?_) (fun r g hg => ?_) (fun r g hg => c2 _ _ (get r g hg))
            · simp only [Bool.and_eq_true, decide_eq_true_eq] at hf
              have := e4 hf.1
              omega
            · obtain ⟨d1, d2, d3⟩ := c1 _ _ (get r g hg)
              exact ⟨d1, d2, by rw [← d3, Nat.add_assoc]⟩
        · simp at hp
      | some m =>
        dsimp only [mxOf] at hp hmax
        split at hp
        · rename_i hc
          obtain ⟨p1, p2, p3, p4⟩ := hc
          obtain rfl := Option.some.inj hp
          have hrun := run_part_slice (w := C.w) (lo := lo) (hi := hi) (mx := mxo) (mm := m.toNat) ho hu hn hxx (by simpa using h1) (by simpa [lenN] using h2) (hmax c (fun q hq => by obtain rfl := Option.some.inj hq; omega)) p1 p2 (by omega)
          split
          · rename_i hij
            subst hij
            by_cases hci : m.toNat = i.toNat
            · rw [if_pos hci, Nat.sub_self, hci, Nat.sub_self] at hrun
              exact done_value hr (im_empty fun h => rfl) hrun
            · rw [if_neg hci, Nat.sub_self] at hrun
              simp only [Option.map_some, addr_add] at hrun
              exact done_value hr (im_empty fun h => by simp at h; omega) hrun
          · rename_i hij
            have hci : ¬ m.toNat = i.toNat := by omega
            rw [if_neg hci] at hrun
            simp only [Option.map_some, addr_add] at hrun
            refine done_value hr ?_ hrun
            refine .im (fun r => us (i.toNat * n + r)) (by omega) (fun hf => ?_) (fun r g hg => ?_) (fun r g hg => c2 _ _ (get r g hg))
            · simp only [decide_eq_true_eq] at hf
              omega
            · obtain ⟨d1, d2, d3⟩ := c1 _ _ (get r g hg)
              exact ⟨d1, d2, by rw [← d3, Nat.add_assoc]⟩
        · simp at hp
    | v u =>
      simp only [partE] at hp
      split at hp
      · simp at *
      · simp at *
      · split at hp
        · rename_i hz hc
          obtain ⟨rfl, rfl, hz0⟩ := hc
          obtain rfl := Option.some.inj hp
          cases hz
          have hxx := hx.v_inv
          have hrun := run_part_slice (w := C.w) (lo := lo) (hi := hi) (mx := mxo) (mm := 0) ho hu hn hxx (by simpa using h1) (by simpa [lenN] using h2) (by
            have := hmax 0 (fun q hq => by subst hq; simp at hz0; omega)
            cases z with
            | none => exact this
            | some q => simp at hz0; subst hz0; exact this) (Int.le_refl _) (Int.le_refl _) (by simp)
          refine done_value hr (.v _) ?_
          rw [hrun]
          rfl
        · simp at hp
      · simp at hp
    | _ => simp [partE] at hp
  · simp at he

theorem sound_clr {ty e : TypeId} {x : Operand} {mx : MO} {z : LV} {n : Nat} {args : Array Operand} {argT : Array TypeId} (ho : o.op = .call { callee := .builtin .clear, args := args, argTypes := argT }) (ha : args.toList = [x]) (hty : argT[0]? = some ty) (hu : P.underlying ty = some (.slice e)) (hz : zeroT P e = some z) (hn : sizeT P e = some n) (hzs : z.cells.length = n) (h0 : 0 < n)
    (hx : Conc C (ev t mx) (a.eval x)) (hr : Rel C B h)
    (he : evOp (.clr mx z.cells n) t h lim = some (l, h')) : Done P ((execOp a.eval o).run P C.w) (OpPost B lim C h false l h') := by
  obtain ⟨v, hv, rfl⟩ := zeroT_run hz C.w
  have hvz : v.cells.size = n := by have := (liftV_cells (C := C) v).1; simp at this; omega
  have hargs : args = #[x] := by rw [← Array.toArray_toList (xs := args), ha]
  subst hargs
  have hex : ∀ w', (∀ rt, (Builtin.clear_ argT rt #[a.eval x]).run P C.w = .ok (.tuple #[]) w') → (execOp a.eval o).run P C.w = .ok (.value (.tuple #[])) w' := by
    intro w' hh
    simp [execOp, ho, resolve, invoke, builtin, hh]
  have hz0 : ∀ (ad : Option Addr) (c : Nat), a.eval x = .slice ad 0 c → ∀ rt, (Builtin.clear_ argT rt #[a.eval x]).run P C.w = .ok (.tuple #[]) C.w := by
    intro ad c hxx rt
    cases ad <;> simp [Builtin.clear_, hty, hxx, run_underlying hu]
  have htup : Conc C (.tup []) (.tuple (#[] : Array Value)) := Conc.tup (us := []) rfl (fun i c u h => by simp at h)
  simp only [evOp] at he
  generalize hl : ev t mx = lv at hx he
  cases lv with
  | sl k ver off len esz cap =>
    simp only at he
    split at he
    · simp at he
    · cases hrow : rowOf h k ver with
      | none => simp [hrow] at he
      | some cs =>
        simp only [hrow] at he
        split at he
        · rename_i hcond
          obtain ⟨rfl, hoff, hzat⟩ := hcond
          simp only [Option.some.injEq, Prod.mk.injEq] at he
          obtain ⟨rfl, rfl⟩ := he
          obtain ⟨b, q, us, tt, c, hxx, e3, e4, h1, h2, h3, h4, h5, h6, h7⟩ := Conc.sl_inv hr hx hrow
          by_cases hl0 : len = 0
          · subst hl0
            rw [hex _ (hz0 _ _ hxx)]
            have : h.set k ⟨ver, putR cs off (repC (liftV v).cells 0)⟩ = h := by
              rw [show repC (liftV v).cells 0 = [] from rfl, putR_nil]
              exact set_same h3
            rw [this]
            exact OpPost.same hr htup
          · have hcon := repC_conc (liftV_cells (C := C) v) len
            have hlen2 : (List.replicate len v.cells.toList).flatten.length = len * esz := by simp [hvz]
            have hlen3 : (repC (liftV v).cells len).length = len * esz := by rw [hcon.1, hlen2]
            have hone : ∀ u ∈ (List.replicate len v.cells.toList).flatten, u.oneCell' = true := by
              intro u hu
              rw [List.mem_flatten] at hu
              obtain ⟨l, hl1, hl2⟩ := hu
              obtain rfl := (List.mem_replicate.1 hl1).2
              obtain ⟨i, hi, rfl⟩ := List.getElem_of_mem hl2
              have hc0 := liftV_cells (C := C) v
              have hi2 : i < (liftV v).cells.length := by rw [hc0.1]; exact hi
              exact atom_one (hc0.2 i _ _ (List.getElem?_eq_getElem hi2) (List.getElem?_eq_getElem hi)) (List.all_eq_true.1 hzat _ (List.getElem_mem _))
            have hrep : Builtin.zeroCells v.cells len = (List.replicate len v.cells.toList).flatten.toArray := rep_cells v.cells len (by omega)
            have hrun := run_storeCells_at P b (q + off) tt (List.replicate len v.cells.toList).flatten 0 us C.w h5 (by rw [hlen2]; omega) hone
            simp only [Nat.add_zero] at hrun
            have hw := Rel.write (ys := putR cs off (repC (liftV v).cells len)) (us' := (us.toList.take (q + off) ++ (List.replicate len v.cells.toList).flatten ++ us.toList.drop (q + off + (List.replicate len v.cells.toList).flatten.length)).toArray) hr h1 h3 h4 h5
              (by simp only [List.size_toArray, List.length_append, List.length_take, List.length_drop, Array.length_toList, hlen2]; omega)
              (by rw [putR_length _ _ _ (by omega)]; exact h6)
              (fun i c hi => by
                unfold putR at hi
                rw [seg_get _ _ _ (by omega)] at hi
                simp only [List.getElem?_toArray]
                rw [seg_get _ _ _ (by simp only [Array.length_toList, hlen2]; omega)]
                by_cases hin : off ≤ i ∧ i < off + (repC (liftV v).cells len).length
                · rw [if_pos hin] at hi
                  rw [if_pos ⟨by omega, by omega⟩]
                  have hlt : i - off < (List.replicate len v.cells.toList).flatten.length := by omega
                  refine ⟨(List.replicate len v.cells.toList).flatten[i - off], ?_, hcon.2 (i - off) c _ hi (List.getElem?_eq_getElem hlt)⟩
                  rw [show q + i - (q + off) = i - off by omega, List.getElem?_eq_getElem hlt]
                · rw [if_neg hin] at hi
                  rw [if_neg (by omega)]
                  obtain ⟨u, y1, y2⟩ := h7 i c hi
                  exact ⟨u, by simpa using y1, y2⟩)
            rw [hex (C.w.setRow b (us.toList.take (q + off) ++ (List.replicate len v.cells.toList).flatten ++ us.toList.drop (q + off + (List.replicate len v.cells.toList).flatten.length)).toArray) (fun rt => by
              cases len with
              | zero => exact absurd rfl hl0
              | succ len => simp [Builtin.clear_, hty, hxx, run_underlying hu, hv, hrep, hrun])]
            refine ⟨_, rfl, Conc.tup (us := []) rfl (fun i c u h => by simp at h), hw.1, hw.2, ⟨fun b' hb hno => ?_, fun k' b' o' e1 e2 _ => ⟨k', o', e1, e2⟩, by simp⟩, fun h => by simp at h⟩
            exact setRow_other C.w b b' _ (fun hbb => hno k q (by omega) (by rw [hbb]; exact h1))
        · simp at he
  | im cs len full =>
    cases len with
    | zero =>
      simp only [Option.some.injEq, Prod.mk.injEq] at he
      obtain ⟨rfl, rfl⟩ := he
      obtain ⟨b, q, c, us, hxx, _⟩ := hx.im_inv
      rw [hex _ (hz0 _ _ hxx)]
      exact OpPost.same hr htup
    | succ len => simp at he
  | v u =>
    split at he <;> try (simp at *; done)
    all_goals
      rename_i hz
      cases hz
      simp only [Option.some.injEq, Prod.mk.injEq] at he
      obtain ⟨rfl, rfl⟩ := he
      rw [hex _ (hz0 _ _ hx.v_inv)]
      exact OpPost.same hr htup
  | _ => simp at he

/-- What an interface value holds, asked for by its type. -/
theorem sound_tas {ty xty : TypeId} {d : TypeDesc} {x : Operand} {mx : MO} {ok : Bool} {z : LV} (ho : o.op = .typeAssert x xty ty ok) (hu : P.underlying ty = some d) (hd : ∀ ms, d ≠ .interface ms) (hz : zeroT P ty = some z) (hx : Conc C (ev t mx) (a.eval x)) (hr : Rel C B h)
    (he : evOp (.tas mx ty ok z) t h lim = some (l, h')) : Done P ((execOp a.eval o).run P C.w) (OpPost B lim C h true l h') := by
  obtain ⟨v, hv, rfl⟩ := zeroT_run hz C.w
  have htup : ∀ {x : LV} {u : Value} (b : Bool), Conc C x u → Conc C (.tup [x, .b b]) (.tuple #[u, .bool b]) := by
    intro x u b h
    refine Conc.tup (us := [u, .bool b]) rfl (fun i c w h1 h2 => ?_)
    match i with
    | 0 => simp at h1 h2; subst h1; subst h2; exact h
    | 1 => simp at h1 h2; subst h1; subst h2; exact .v _
    | i + 2 => simp at h1
  simp only [evOp] at he
  split at he
  · rename_i hn
    rw [hn] at hx
    have hxx := hx.v_inv
    split at he
    · rename_i hok
      simp only [Option.some.injEq, Prod.mk.injEq] at he
      obtain ⟨rfl, rfl⟩ := he
      refine done_value hr (htup false (liftV_conc v)) ?_
      cases d <;> first | exact absurd rfl (hd _) | simp [execOp, ho, Instr.typeAssert, run_underlying hu, hxx, hok, hv]
    · simp at he
  · rename_i dt y hn
    rw [hn] at hx
    obtain ⟨u, hxx, hu'⟩ : ∃ u, a.eval x = .iface dt u ∧ Conc C y u := by
      generalize a.eval x = q at hx
      cases hx with | ifc h => exact ⟨_, rfl, h⟩
    split at he
    · rename_i hdt
      simp only [Option.some.injEq, Prod.mk.injEq] at he
      obtain ⟨rfl, rfl⟩ := he
      cases ok
      · refine done_value (u := u) hr (by simpa using hu') ?_
        cases d <;> first | exact absurd rfl (hd _) | simp [execOp, ho, Instr.typeAssert, run_underlying hu, hxx, hdt]
      · refine done_value (u := .tuple #[u, .bool true]) hr (by simpa using htup true hu') ?_
        cases d <;> first | exact absurd rfl (hd _) | simp [execOp, ho, Instr.typeAssert, run_underlying hu, hxx, hdt]
    · rename_i hdt
      split at he
      · rename_i hok
        simp only [Option.some.injEq, Prod.mk.injEq] at he
        obtain ⟨rfl, rfl⟩ := he
        refine done_value hr (htup false (liftV_conc v)) ?_
        cases d <;> first | exact absurd rfl (hd _) | simp [execOp, ho, Instr.typeAssert, run_underlying hu, hxx, hok, hv, hdt]
      · simp at he
  · simp at he

/-- A part of a string. -/
theorem sound_sst {ty : TypeId} {x lo hi : Operand} {mx ml mh : MO} (ho : o.op = .slice ty x (some lo) (some hi) none) (hu : P.underlying ty = some .string) (hx : Conc C (ev t mx) (a.eval x)) (hl : Conc C (ev t ml) (a.eval lo)) (hh : Conc C (ev t mh) (a.eval hi)) (hr : Rel C B h)
    (he : evOp (.sst mx ml mh) t h lim = some (l, h')) : Done P ((execOp a.eval o).run P C.w) (OpPost B lim C h true l h') := by
  simp only [evOp] at he
  split at he
  · rename_i s k1 i k2 j h1 h2 h3
    rw [h1] at hx
    rw [h2] at hl
    rw [h3] at hh
    split at he
    · rename_i hc
      simp only [Option.some.injEq, Prod.mk.injEq] at he
      obtain ⟨rfl, rfl⟩ := he
      refine done_value hr (.v _) ?_
      simp [execOp, ho, hx.v_inv, hl.v_inv, hh.v_inv, Instr.sliceAt, run_underlying hu, run_slice_string C.w ty s k1 k2 i j hu hc.1 hc.2.1 hc.2.2]
    · simp at he
  · simp at he
theorem bytesE_spec : ∀ {cs : List LV} {ns : List Int}, bytesE cs = some ns → cs = ns.map fun x => LV.v (.int .u8 x)
  | [], ns, hb => by simp [bytesE] at hb; subst hb; rfl
  | c :: cs, ns, hb => by
    unfold bytesE at hb
    split at hb
    · rename_i heq; simp at heq
    · rename_i x l heq
      simp only [List.cons.injEq] at heq
      obtain ⟨rfl, rfl⟩ := heq
      simp only [Option.map_eq_some_iff] at hb
      obtain ⟨ms, h1, rfl⟩ := hb
      rw [bytesE_spec h1]; rfl
    · simp at hb
/-- Bytes as a string. -/
theorem sound_bst {s d e : TypeId} {x : Operand} {mx : MO} (ho : o.op = .convert s d x) (hs : P.underlying s = some (.slice e)) (he8 : P.underlying e = some (.int .u8)) (hd : P.underlying d = some .string) (hx : Conc C (ev t mx) (a.eval x)) (hr : Rel C B h)
    (he : evOp (.bst mx) t h lim = some (l, h')) : Done P ((execOp a.eval o).run P C.w) (OpPost B lim C h true l h') := by
  simp only [evOp] at he
  split at he
  · rename_i k ver off len ez cap hl
    rw [hl] at hx
    split at he
    · rename_i cs hrow
      split at he
      · rename_i hc
        obtain ⟨rfl, hle⟩ := hc
        simp only [Option.map_eq_some_iff, Prod.mk.injEq] at he
        obtain ⟨ns, hns, rfl, rfl⟩ := he
        obtain ⟨b, q, us, ty, c, hxx, -, -, -, -, -, -, h8, h9, h10⟩ := Conc.sl_inv hr hx hrow
        have hb := bytesE_spec hns
        have hlen : ns.length = len := by
          have := congrArg List.length hb
          simp at this; omega
        have hcell : ∀ j v, (ns.map (Value.int .u8))[j]? = some v → C.w.cell? ((⟨b, q + off, none⟩ : Addr).add j) = some v := by
          intro j v hj
          rw [List.getElem?_map] at hj
          cases hn : ns[j]? with
          | none => rw [hn] at hj; simp at hj
          | some n =>
            rw [hn] at hj
            simp only [Option.map_some, Option.some.injEq] at hj
            subst hj
            have hjl : j < len := by rw [← hlen]; exact (List.getElem?_eq_some_iff.1 hn).1
            have hcs : cs[off + j]? = some (.v (.int .u8 n)) := by
              have := congrArg (fun l => l[j]?) hb
              simp only [List.getElem?_map, hn, Option.map_some, List.getElem?_take, hjl, if_true, List.getElem?_drop] at this
              exact this
            obtain ⟨u, h1, h2⟩ := h10 _ _ hcs
            rw [h2.v_inv] at h1
            rw [addr_add]
            unfold World.cell?
            simp [h8, Nat.add_assoc, h1]
        have hload := run_loadCells_list (P := P) (w := C.w) ⟨b, q + off, none⟩ (ns.map (Value.int .u8)) hcell
        rw [List.length_map, hlen] at hload
        refine done_value hr (.v _) ?_
        simp [execOp, ho, hxx, run_convert_bytes_string C.w s d e _ _ _ hs he8 hd, run_bytesToString C.w _ len c ns hload, strE]
      · simp at he
    · simp at he
  · rename_i hl
    rw [hl] at hx
    simp only [Option.some.injEq, Prod.mk.injEq] at he
    obtain ⟨rfl, rfl⟩ := he
    refine done_value hr (.v _) ?_
    simp [execOp, ho, hx.v_inv, run_convert_bytes_string C.w s d e _ _ _ hs he8 hd, Conv.bytesToString]
    rfl
  · simp at he

theorem mks_run {ty e : TypeId} {x y : Operand} {z : LV} {i : TypeInfo} {k1 k2 : IntKind} {n : Int} (ho : o.op = .makeSlice ty x y) (hu : P.underlying ty = some (.slice e)) (hz : zeroT P e = some z) (hi : P.info? e = some i) (hzs : z.cells.length = i.size) (h0 : 0 < i.size)
    (hx : a.eval x = .int k1 n) (hy : a.eval y = .int k2 n) (c1 : 0 ≤ n) (c2 : n ≤ 9223372036854775807) (c3 : n.toNat * i.bytes ≤ 140737488355328) :
    ∃ us : Array Value, (execOp a.eval o).run P C.w = .ok (.value (.slice (some ⟨C.w.heap.size, 0, none⟩) n.toNat n.toNat)) (C.w.alloc (.cells us e (0, 0))) ∧ us.size = n.toNat * i.size ∧ ConcL C (repC z.cells n.toNat) us.toList := by
  obtain ⟨v, hv, rfl⟩ := zeroT_run hz C.w
  have hvz : v.cells.size = i.size := by have := (liftV_cells (C := C) v).1; simp at this; omega
  have hcon := repC_conc (liftV_cells (C := C) v) n.toNat
  have hw : IntKind.i64.wrap n = n := by rw [IntKind.wrap_i64]; omega
  refine ⟨(List.replicate n.toNat v.cells.toList).flatten.toArray, ?_, by simp [hvz], by simpa using hcon⟩
  have hb : ¬ ((i.bytes : Int) * n > 2 ^ 48) := by
    have : (i.bytes : Int) * n = ((n.toNat * i.bytes : Nat) : Int) := by
      rw [Int.natCast_mul, Int.toNat_of_nonneg c1, Int.mul_comm]
    omega
  have hb2 : ¬ (281474976710656 < (i.bytes : Int) * n) := by
    intro h; exact hb (by omega)
  have hn0 : ¬ n < 0 := by omega
  have hnn : ¬ n > n := by omega
  by_cases hz0 : n.toNat * i.size = 0
  · have hnz : n.toNat = 0 := by rcases Nat.mul_eq_zero.1 hz0 with h | h <;> omega
    simp [execOp, ho, Instr.makeSlice, run_underlying hu, hx, hy, asInt, asIntOf, typeInfo, hi, hw, hn0, hnn, hb2, sizeOf, hnz, newRow, run_newObj]
    exact congrArg (fun z => C.w.alloc (Obj.cells z e (0, 0))) (Array.eq_empty_of_size_eq_zero (by simp))
  · have hrep : (Array.range (n.toNat * i.size)).map (fun q => v.cells[q % v.cells.size]!) = (List.replicate n.toNat v.cells.toList).flatten.toArray := by
      rw [← hvz]
      exact rep_cells v.cells n.toNat (by omega)
    simp [execOp, ho, Instr.makeSlice, run_underlying hu, hx, hy, asInt, asIntOf, typeInfo, hi, hw, hn0, hnn, hb2, hz0, sizeOf, hv, hrep, newRow, run_newObj]

theorem sound_mks {ty e : TypeId} {x y : Operand} {mx my : MO} {z : LV} {i : TypeInfo} (ho : o.op = .makeSlice ty x y) (hu : P.underlying ty = some (.slice e)) (hz : zeroT P e = some z) (hi : P.info? e = some i) (hzs : z.cells.length = i.size) (h0 : 0 < i.size)
    (hx : Conc C (ev t mx) (a.eval x)) (hy : Conc C (ev t my) (a.eval y)) (hr : Rel C B h)
    (he : evOp (.mks mx my z.cells i.size i.bytes) t h lim = some (l, h')) : Done P ((execOp a.eval o).run P C.w) (OpPost B lim C h false l h') := by
  simp only [evOp] at he
  split at he
  · rename_i k1 n k2 m hn hm
    rw [hn] at hx
    rw [hm] at hy
    split at he
    · rename_i hc
      obtain ⟨rfl, c1, c2, c3⟩ := hc
      simp only [Option.some.injEq, Prod.mk.injEq] at he
      obtain ⟨rfl, rfl⟩ := he
      obtain ⟨us, hrun, hus, hcon⟩ := mks_run (C := C) ho hu hz hi hzs h0 hx.v_inv hy.v_inv c1 c2 c3
      obtain ⟨p1, p2⟩ := Rel.push (ty := e) (us := us) hr hcon
      rw [hrun]
      refine ⟨_, rfl, ?_, p1, p2, ?_, fun h => by simp at h⟩
      · have : Conc (Cx.mk (C.ρ ++ [some (C.w.heap.size, 0)]) (C.vs ++ [0]) C.X (C.w.alloc (.cells us e (0, 0)))) (.sl h.length 0 0 n.toNat i.size n.toNat) (.slice (some ⟨C.w.heap.size, 0 + 0, none⟩) n.toNat n.toNat) := by
          refine Conc.sl (o := 0) ?_ ?_ ⟨Nat.le_refl _, Nat.le_refl _⟩ ⟨_, e, heap_alloc_new C.w _, ?_⟩
          · show (C.ρ ++ _)[h.length]? = _
            rw [← hr.len, List.getElem?_append_right (Nat.le_refl _)]
            simp
          · show (C.vs ++ _)[h.length]? = _
            have : C.vs.length = h.length := by rw [hr.vs]; simp
            rw [← this, List.getElem?_append_right (Nat.le_refl _)]
            simp
          · simp [hus]
        exact this
      · have hbelow : Below C.w.heap.size C.w (C.w.alloc (.cells us e (0, 0))) := (Below.refl _ _).alloc (Nat.le_refl _) _
        refine ⟨fun b hlt _ => hbelow.block b hlt, fun k b q e1 e2 e3 => ?_, hbelow.size⟩
        have e2' : (C.ρ ++ [some (C.w.heap.size, 0)])[k]? = some (some (b, q)) := e2
        rw [List.getElem?_append] at e2'
        split at e2'
        · exact ⟨k, q, e1, e2'⟩
        · have := List.mem_of_getElem? e2'
          simp at this
          omega
    · simp at he
  · simp at he
end
end Go.Proofs.Ytjgnjpbplnmdmaa
