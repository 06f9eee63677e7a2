/- Parts of slices, slices made, slices as arrays. -/
import Derived.Test.YtebkldmioahkdaaEngA
namespace Go.Proofs.Ytebkldmioahkdaa
open Go Go.RowKit
section
variable {P : Program} {o : Oper} {a : Act} {t : List LV} {h h' : List Row} {lim B : Nat} {C : Cx} {l : LV}

theorem sound_sap {arr e : TypeId} {x : Operand} {mx : MO} {n : Nat} (ho : o.op = .sliceToArrayPointer arr x) (hu : P.underlying arr = some (.array n e)) (hx : Conc C (ev t mx) (a.eval x)) (hr : Rel C B h)
    (he : evOp (.sap mx n) t h lim = some (l, h')) : Done P ((execOp a.eval o).run P C.w) (OpPost B lim C h true l h') := by
  have hrun : ∀ (ad : Option Addr) (len c : Nat), a.eval x = .slice ad len c → n ≤ len → (execOp a.eval o).run P C.w = .ok (.value (.pointer ad)) C.w := by
    intro ad len c had hn
    have : ¬ len < n := by omega
    simp [execOp, ho, Instr.arrayAt, run_underlying hu, had, this]
  simp only [evOp] at he
  generalize hl : ev t mx = lv at hx he
  cases lv with
  | sl k ver off len esz =>
    simp only at he
    split at he
    · rename_i hn
      simp only [Option.some.injEq, Prod.mk.injEq] at he
      obtain ⟨rfl, rfl⟩ := he
      cases hxx : a.eval x with
      | slice ao ln c =>
        rw [hxx] at hx
        cases hx with
        | sl e1 e2 e3 e4 => exact done_value hr (.p e1 e2) (hrun _ _ _ hxx hn)
        | slOld e1 e2 => exact done_value hr (.pOld e1 e2) (hrun _ _ _ hxx hn)
      | _ => rw [hxx] at hx; cases hx
    · simp at he
  | im cs len full =>
    simp only at he
    split at he
    · rename_i hn
      simp only [Option.some.injEq, Prod.mk.injEq] at he
      obtain ⟨rfl, rfl⟩ := he
      obtain ⟨b, q, c, us, had, _, _, h1, h2⟩ := hx.im_inv
      exact done_value hr (.pi us h1 h2) (hrun _ _ _ had hn)
    · simp at he
  | _ => simp at he

theorem run_bound {v : Value} {k : IntKind} {j : Int} {y : Nat} {code : BoundsCode} (hv : v = .int k j) (h0 : 0 ≤ j) (h1 : j ≤ (y : Int)) (w : World) : (Instr.sliceBound v y code).run P w = .ok j.toNat w := by
  subst hv
  simp [Instr.sliceBound, asIntOf, h0, h1]

/-- What a part of a slice is. -/
theorem run_part_slice {ty e : TypeId} {x : Operand} {lo hi : Option Operand} {ad : Option Addr} {len c n : Nat} {i j : Int} (ho : o.op = .slice ty x lo hi none) (hu : P.underlying ty = some (.slice e)) (hn : sizeT P e = some n) (hxx : a.eval x = .slice ad len c)
    (h1 : (lo = none ∧ i = 0) ∨ ∃ y k, lo = some y ∧ a.eval y = .int k i) (h2 : (hi = none ∧ j = (len : Int)) ∨ ∃ y k, hi = some y ∧ a.eval y = .int k j) (h3 : 0 ≤ i) (h4 : i ≤ j) (h5 : j ≤ (len : Int)) (h6 : len ≤ c) (w : World) :
    (execOp a.eval o).run P w = .ok (.value (.slice (if c = i.toNat then ad else ad.map (·.add (i.toNat * n))) (j.toNat - i.toNat) (c - i.toNat))) w := by
  have hb : (Instr.sliceBounds true len c (lo.map a.eval) (hi.map a.eval) none).run P w = .ok (i.toNat, j.toNat, c) w := by
    have hhi : ∀ (z : Nat), z = j.toNat → i ≤ (z : Int) := fun z hz => by omega
    rcases h2 with ⟨rfl, rfl⟩ | ⟨y2, k2, rfl, e2⟩
    · rcases h1 with ⟨rfl, rfl⟩ | ⟨y1, k1, rfl, e1⟩
      · simp [Instr.sliceBounds]
      · simp [Instr.sliceBounds, run_bound e1 h3 h4]
    · rcases h1 with ⟨rfl, rfl⟩ | ⟨y1, k1, rfl, e1⟩
      · simp [Instr.sliceBounds, run_bound e2 (by omega : 0 ≤ j) (by omega : j ≤ (c : Int))]
      · simp [Instr.sliceBounds, run_bound e2 (by omega : 0 ≤ j) (by omega : j ≤ (c : Int)), run_bound e1 h3 (hhi j.toNat rfl)]
  have hs : (Instr.sliceAt ty (.slice ad len c) (lo.map a.eval) (hi.map a.eval) none).run P w = .ok (.slice (if c = i.toNat then ad else ad.map (·.add (i.toNat * n))) (j.toNat - i.toNat) (c - i.toNat)) w := by
    simp only [Instr.sliceAt, Instr.slice, Sem.run_bind, run_underlying hu, Result.andThen_ok, hb, run_sizeT hn, Sem.run_pure]
  simp [execOp, ho, hxx, hs]

theorem bndE_spec {m : Option MO} {d : Nat} {z : Int} {y : Option Operand} (hy : cOo y = some m) (hc : ∀ x, y = some x → ∀ mx, cO x = some mx → Conc C (ev t mx) (a.eval x)) (h : bndE t m d = some z) : (y = none ∧ z = d) ∨ ∃ x k, y = some x ∧ a.eval x = .int k z := by
  cases y with
  | none =>
    simp [cOo] at hy
    subst hy
    simp [bndE] at h
    exact .inl ⟨rfl, h.symm⟩
  | some x =>
    simp only [cOo, Option.map_eq_some_iff] at hy
    obtain ⟨mx, h1, rfl⟩ := hy
    have := hc x rfl mx h1
    simp only [bndE] at h
    split at h
    · rename_i k j hj
      simp at h
      subst h
      rw [hj] at this
      exact .inr ⟨x, k, rfl, this.v_inv⟩
    · simp at h

theorem im_empty {b o c : Nat} {full : Bool} (hf : full = true → c = 0) : Conc C (.im [] 0 full) (.slice (some ⟨b, o, none⟩) 0 c) :=
  .im (fun _ => undef) (Nat.zero_le _) hf (fun i e h => by simp at h) (fun i e h => by simp at h)

theorem sound_slc {ty e : TypeId} {x : Operand} {lo hi : Option Operand} {mx : MO} {ml mh : Option MO} {n : Nat} (ho : o.op = .slice ty x lo hi none) (hu : P.underlying ty = some (.slice e)) (hn : sizeT P e = some n) (hx : Conc C (ev t mx) (a.eval x))
    (hl : cOo lo = some ml) (hh : cOo hi = some mh) (hlc : ∀ x, lo = some x → ∀ mx, cO x = some mx → Conc C (ev t mx) (a.eval x)) (hhc : ∀ x, hi = some x → ∀ mx, cO x = some mx → Conc C (ev t mx) (a.eval x)) (hr : Rel C B h)
    (he : evOp (.slc mx ml mh n) t h lim = some (l, h')) : Done P ((execOp a.eval o).run P C.w) (OpPost B lim C h true l h') := by
  simp only [evOp] at he
  split at he
  · rename_i i j hi' hj'
    simp only [Option.map_eq_some_iff, Prod.mk.injEq] at he
    obtain ⟨z, hp, rfl, rfl⟩ := he
    have h1 := bndE_spec hl hlc hi'
    have h2 := bndE_spec hh hhc hj'
    generalize hlv : ev t mx = lv at hx hp h2
    cases lv with
    | sl k ver off len esz =>
      simp only [partE] at hp
      split at hp
      · rename_i cs hrow
        split at hp
        · rename_i hc
          obtain ⟨rfl, p1, p2, p3⟩ := hc
          obtain rfl := Option.some.inj hp
          obtain ⟨b, q, c, us, tt, hxx, e1, e2, e3, e4⟩ : ∃ (b q c : Nat) (us : Array Value) (tt : TypeId), a.eval x = .slice (some ⟨b, q + off, none⟩) len c ∧ C.ρ[k]? = some (b, q) ∧ C.vs[k]? = some ver ∧ len ≤ c ∧ room C.w b (q + off + c * esz) := by
            cases hxx : a.eval x with
            | slice ao ln c =>
              rw [hxx] at hx
              cases hx with
              | sl e1 e2 e3 e4 => exact ⟨_, _, _, #[], 0, rfl, e1, e2, e3, e4⟩
              | slOld e1 e2 =>
                exfalso
                unfold rowOf at hrow
                split at hrow
                · rename_i r hrk
                  split at hrow
                  · rename_i hv
                    rw [hr.vs, List.getElem?_map, hrk] at e1
                    simp at e1
                    omega
                  · simp at hrow
                · simp at hrow
            | _ => rw [hxx] at hx; cases hx
          have hrun := run_part_slice (w := C.w) (lo := lo) (hi := hi) ho hu hn hxx (by simpa using h1) (by simpa [lenN] using h2) p1 p2 p3 e3
          split
          · rename_i hij
            subst hij
            by_cases hci : c = i.toNat
            · rw [if_pos hci, Nat.sub_self, hci, Nat.sub_self] at hrun
              exact done_value hr (im_empty fun h => by cases h) hrun
            · rw [if_neg hci, Nat.sub_self] at hrun
              simp only [Option.map_some, addr_add] at hrun
              exact done_value hr (im_empty fun h => by cases h) hrun
          · rename_i hij
            have hci : ¬ c = i.toNat := by omega
            rw [if_neg hci] at hrun
            simp only [Option.map_some, addr_add] at hrun
            refine done_value hr ?_ hrun
            have hc2 : Conc C (.sl k ver (off + i.toNat * esz) (j.toNat - i.toNat) esz) (.slice (some ⟨b, q + (off + i.toNat * esz), none⟩) (j.toNat - i.toNat) (c - i.toNat)) := by
              refine .sl e1 e2 (by omega) ?_
              have hm : i.toNat * esz + (c - i.toNat) * esz = c * esz := by rw [← Nat.add_mul]; congr 1; omega
              have : q + (off + i.toNat * esz) + (c - i.toNat) * esz = q + off + c * esz := by omega
              rw [this]; exact e4
            rw [← Nat.add_assoc] at hc2
            exact hc2
        · simp at hp
      · simp at hp
    | im cs len full =>
      simp only [partE] at hp
      split at hp
      · rename_i hc
        obtain ⟨p1, p2, p3⟩ := hc
        obtain rfl := Option.some.inj hp
        obtain ⟨b, q, c, us, hxx, e3, e4, c1, c2⟩ := hx.im_inv
        have hrun := run_part_slice (w := C.w) (lo := lo) (hi := hi) ho hu hn hxx (by simpa using h1) (by simpa [lenN] using h2) p1 p2 p3 e3
        split
        · rename_i hij
          subst hij
          by_cases hci : c = i.toNat
          · rw [if_pos hci, Nat.sub_self, hci, Nat.sub_self] at hrun
            exact done_value hr (im_empty fun h => by cases h) hrun
          · rw [if_neg hci, Nat.sub_self] at hrun
            simp only [Option.map_some, addr_add] at hrun
            exact done_value hr (im_empty fun h => by cases h) hrun
        · rename_i hij
          have hci : ¬ c = i.toNat := by omega
          rw [if_neg hci] at hrun
          simp only [Option.map_some, addr_add] at hrun
          refine done_value hr ?_ hrun
          have get : ∀ (r : Nat) (g : LV), ((cs.drop (i.toNat * n)).take ((j.toNat - i.toNat) * n))[r]? = some g → cs[i.toNat * n + r]? = some g := by
            intro r g hg
            rw [List.getElem?_take] at hg
            split at hg
            · rw [List.getElem?_drop] at hg; exact hg
            · cases hg
          refine .im (fun r => us (i.toNat * n + r)) (by omega) (fun hf => ?_) (fun r g hg => ?_) (fun r g hg => c2 _ _ (get r g hg))
          · simp only [Bool.and_eq_true, decide_eq_true_eq] at hf
            have := e4 hf.1
            omega
          · obtain ⟨d1, d2, d3⟩ := c1 _ _ (get r g hg)
            exact ⟨d1, d2, by rw [← d3, Nat.add_assoc]⟩
      · simp at hp
    | v z =>
      simp only [partE] at hp
      split at hp
      · simp at *
      · simp at *
      · split at hp
        · rename_i hz hc
          obtain ⟨rfl, rfl⟩ := hc
          obtain rfl := Option.some.inj hp
          cases hz
          have hxx := hx.v_inv
          have hrun := run_part_slice (w := C.w) (lo := lo) (hi := hi) ho hu hn hxx (by simpa using h1) (by simpa [lenN] using h2) (Int.le_refl _) (Int.le_refl _) (Int.le_refl _) (Nat.le_refl _)
          refine done_value hr (.v _) ?_
          rw [hrun]
          rfl
        · simp at hp
      · simp at hp
    | _ => simp [partE] at hp
  · simp at he

theorem sound_mks {ty e : TypeId} {x y : Operand} {mx my : MO} {z : LV} {i : TypeInfo} (ho : o.op = .makeSlice ty x y) (hu : P.underlying ty = some (.slice e)) (hz : zeroT P e = some z) (hi : P.info? e = some i) (hzs : z.cells.length = i.size) (h0 : 0 < i.size)
    (hx : Conc C (ev t mx) (a.eval x)) (hy : Conc C (ev t my) (a.eval y)) (hr : Rel C B h)
    (he : evOp (.mks mx my z.cells i.size i.bytes) t h lim = some (l, h')) : Done P ((execOp a.eval o).run P C.w) (OpPost B lim C h false l h') := by
  simp only [evOp] at he
  split at he
  · rename_i k1 n k2 m hn hm
    rw [hn] at hx
    rw [hm] at hy
    split at he
    · rename_i hc
      obtain ⟨rfl, c1, c2, c3⟩ := hc
      simp only [Option.some.injEq, Prod.mk.injEq] at he
      obtain ⟨rfl, rfl⟩ := he
      obtain ⟨v, hv, rfl⟩ := zeroT_run hz C.w
      have hvz : v.cells.size = i.size := by have := (liftV_cells (C := C) v).1; simp at this; omega
      have hcon := repC_conc (liftV_cells (C := C) v) n.toNat
      have hw : IntKind.i64.wrap n = n := by rw [IntKind.wrap_i64]; omega
      have hrun : (execOp a.eval o).run P C.w = .ok (.value (.slice (some ⟨C.w.heap.size, 0, none⟩) n.toNat n.toNat)) (C.w.alloc (.cells (List.replicate n.toNat v.cells.toList).flatten.toArray e (0, 0))) := by
        have hb : ¬ ((i.bytes : Int) * n > 2 ^ 48) := by
          have : (i.bytes : Int) * n = ((n.toNat * i.bytes : Nat) : Int) := by
            rw [Int.natCast_mul, Int.toNat_of_nonneg c1, Int.mul_comm]
          omega
        have hb2 : ¬ (281474976710656 < (i.bytes : Int) * n) := by
          intro h; exact hb (by omega)
        have hcells : (if n.toNat * i.size = 0 then (#[] : Array Value) else v.cells) = v.cells ∨ n.toNat = 0 := by
          by_cases hn0 : n.toNat = 0
          · exact .inr hn0
          · left
            rw [if_neg]
            intro h
            rcases Nat.mul_eq_zero.1 h with h | h <;> omega
        have hn0 : ¬ n < 0 := by omega
        have hnn : ¬ n > n := by omega
        by_cases hz0 : n.toNat * i.size = 0
        · have hnz : n.toNat = 0 := by rcases Nat.mul_eq_zero.1 hz0 with h | h <;> omega
          simp [execOp, ho, Instr.makeSlice, run_underlying hu, hx.v_inv, hy.v_inv, asInt, asIntOf, typeInfo, hi, hw, hn0, hnn, hb2, sizeOf, hnz, newRow, run_newObj]
          exact congrArg (fun z => C.w.alloc (Obj.cells z e (0, 0))) (Array.eq_empty_of_size_eq_zero (by simp))
        · have hrep : (Array.range (n.toNat * i.size)).map (fun q => v.cells[q % v.cells.size]!) = (List.replicate n.toNat v.cells.toList).flatten.toArray := by
            rw [← hvz]
            exact rep_cells v.cells n.toNat (by omega)
          simp [execOp, ho, Instr.makeSlice, run_underlying hu, hx.v_inv, hy.v_inv, asInt, asIntOf, typeInfo, hi, hw, hn0, hnn, hb2, hz0, sizeOf, hv, hrep, newRow, run_newObj]
      obtain ⟨p1, p2⟩ := Rel.push (ty := e) (us := (List.replicate n.toNat v.cells.toList).flatten.toArray) hr (by simpa using hcon)
      rw [hrun]
      refine ⟨_, rfl, ?_, p1, p2, ?_, fun h => by simp at h⟩
      · have : Conc (Cx.mk (C.ρ ++ [(C.w.heap.size, 0)]) (C.vs ++ [0]) C.X (C.w.alloc (.cells (List.replicate n.toNat v.cells.toList).flatten.toArray e (0, 0)))) (.sl h.length 0 0 n.toNat i.size) (.slice (some ⟨C.w.heap.size, 0 + 0, none⟩) n.toNat n.toNat) := by
          refine Conc.sl (o := 0) ?_ ?_ (Nat.le_refl _) ⟨_, e, heap_alloc_new C.w _, ?_⟩
          · show (C.ρ ++ _)[h.length]? = _
            rw [← hr.len, List.getElem?_append_right (Nat.le_refl _)]
            simp
          · show (C.vs ++ _)[h.length]? = _
            have : C.vs.length = h.length := by rw [hr.vs]; simp
            rw [← this, List.getElem?_append_right (Nat.le_refl _)]
            simp
          · simp [hvz]
        exact this
      · have hbelow : Below C.w.heap.size C.w (C.w.alloc (.cells (List.replicate n.toNat v.cells.toList).flatten.toArray e (0, 0))) := (Below.refl _ _).alloc (Nat.le_refl _) _
        refine ⟨fun b hlt _ => hbelow.block b hlt, fun k b q e1 e2 e3 => ?_, hbelow.size⟩
        have e2' : (C.ρ ++ [(C.w.heap.size, 0)])[k]? = some (b, q) := e2
        rw [List.getElem?_append] at e2'
        split at e2'
        · exact ⟨k, q, e1, e2'⟩
        · have := List.mem_of_getElem? e2'
          simp at this
          omega
    · simp at he
  · simp at he
end
end Go.Proofs.Ytebkldmioahkdaa
